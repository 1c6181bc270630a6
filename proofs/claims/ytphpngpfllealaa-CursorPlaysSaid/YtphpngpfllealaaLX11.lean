/- What functions of this seat compute, each for every argument of the shapes that are named; no condition beside the stated ones. -/
import Derived.Test.YtphpngpfllealaaLX10
namespace Go.Cv
open Go.Proofs
set_option maxRecDepth 100000
set_option maxHeartbeats 4000000

theorem says_fn (x : Ac) (hx : x.ok) (s : St) (hs : right s) : Fn Try.prog 14 [.agg x.l, s.v] (.tup [(doesS x s).1.v, .bool (doesS x s).2]) := by
  obtain ⟨ha, hc⟩ := hs
  have hlab : 0 ≤ s.c.lab ∧ s.c.lab ≤ 1 := ⟨by have := ha.l1; have := hc.l1; omega, hc.l2⟩
  have e2 : IntKind.i64.wrap (s.a.cols - 1) = s.a.cols - 1 := wr64 (by have := ha.c1; omega) (by have := ha.c2; omega)
  refine Fn.of_body tysOk Try.func14 rfl rfl rfl rfl ?_
  refine DrawP.intro tysOk mixed ?_
  refine ⟨_, near_fn _ hx.a1 hx.a2, ?_⟩
  refine ⟨_, near_fn _ hx.b1 hx.b2, ?_⟩
  refine ⟨by kernel_rfl, ?_⟩
  refine ⟨by decide, ?_⟩
  unfold doesS
  generalize x.what.tmod 16 = w
  refine ⟨fun h => ?_, fun h0 => ?_⟩
  · obtain rfl : w = 0 := by simpa using h
    have e : doesW 0 x s = (⟨(marginsS s.a (nearS x.a) (nearS x.b)).1, if (marginsS s.a (nearS x.a) (nearS x.b)).2 = true then homeS (marginsS s.a (nearS x.a) (nearS x.b)).1 else s.c⟩, (marginsS s.a (nearS x.a) (nearS x.b)).2) := rfl
    rw [e]
    refine (rmargins_fn s.a ha _ _).sem _ ?_
    refine ⟨fun g => ?_, fun g => ?_⟩
    · refine (rhome_fn _ (margins_ok ha _ _)).sem _ ?_
      simp only [g, if_true]
      rfl
    · simp only [g, Bool.false_eq_true, if_false]
      rfl
  refine ⟨fun h => ?_, fun h1 => ?_⟩
  · obtain rfl : w = 1 := by simpa using h
    refine (rresize_fn s.a _ _).sem _ ?_
    refine (rwithinA_fn _ (resize_ok ha _ _) s.c hlab).sem _ ?_
    rfl
  refine ⟨fun h => ?_, fun h2 => ?_⟩
  · obtain rfl : w = 2 := by simpa using h
    refine ⟨by decide, ?_⟩
    refine (rhome_fn (orgS s.a (x.a.tmod 2 == 1)) (org_ok ha _)).sem _ ?_
    rfl
  refine ⟨fun h => ?_, fun h3 => ?_⟩
  · obtain rfl : w = 3 := by simpa using h
    refine (rhome_fn s.a ha).sem _ ?_
    rfl
  refine ⟨fun h => ?_, fun h4 => ?_⟩
  · obtain rfl : w = 4 := by simpa using h
    refine (rgoto_fn s.a ha _ _).sem _ ?_
    rfl
  refine ⟨fun h => ?_, fun h9 => ?_⟩
  · obtain rfl : w = 9 := by simpa using h
    refine (rline_fn s.a ha s.c _).sem _ ?_
    rfl
  refine ⟨fun h => ?_, fun h10 => ?_⟩
  · obtain rfl : w = 10 := by simpa using h
    refine (rcolumn_fn s.a ha s.c _).sem _ ?_
    rfl
  refine ⟨fun h => ?_, fun h11 => ?_⟩
  · obtain rfl : w = 11 := by simpa using h
    refine BCase.yes rfl ?_
    refine (rindex_fn s.a ha s.c hc).sem _ ?_
    rfl
  refine ⟨fun h => ?_, fun h12 => ?_⟩
  · obtain rfl : w = 12 := by simpa using h
    refine (rindex_fn s.a ha s.c hc).sem _ ?_
    rfl
  refine ⟨fun h => ?_, fun h13 => ?_⟩
  · obtain rfl : w = 13 := by simpa using h
    refine (rreverse_fn s.a ha s.c hc).sem _ ?_
    rfl
  refine ⟨fun h => ?_, fun h14 => ?_⟩
  · obtain rfl : w = 14 := by simpa using h
    refine ⟨by decide, ?_⟩
    have e : (if x.a.tmod 2 > s.c.lab then x.a.tmod 2 else s.c.lab) = jn2 (jn2 s.c.lab 0) (x.a.tmod 2) := by
      have hm : 0 ≤ x.a.tmod 2 ∧ x.a.tmod 2 ≤ 1 := by rw [Int.tmod_eq_emod_of_nonneg hx.a1]; omega
      generalize x.a.tmod 2 = m at hm
      unfold jn2
      split <;> split <;> (try split) <;> omega
    show V.tup [.agg [.int .i64 s.a.rows, .int .i64 s.a.cols, .int .i64 s.a.top, .int .i64 s.a.bottom, .bool s.a.org, .int .u8 s.a.base, .int .i64 s.c.row, .int .i64 s.c.col, .bool s.c.wrap, .int .u8 (if x.a.tmod 2 > s.c.lab then x.a.tmod 2 else s.c.lab)], .bool false] = _
    rw [e]
    rfl
  refine ⟨fun h => ?_, fun h15 => ?_⟩
  · obtain rfl : w = 15 := by simpa using h
    show V.tup [.agg [.int .i64 s.a.rows, .int .i64 s.a.cols, .int .i64 s.a.top, .int .i64 s.a.bottom, .bool s.a.org, .int .u8 s.a.base, .int .i64 s.c.row, .int .i64 s.c.col, .bool (s.c.col == IntKind.i64.wrap (s.a.cols - 1)), .int .u8 s.c.lab], .bool false] = _
    rw [e2]
    rfl
  refine (rmove_fn s.a ha s.c hc _ _).sem _ ?_
  have n0 : ¬ w = 0 := by simpa using h0
  have n1 : ¬ w = 1 := by simpa using h1
  have n2 : ¬ w = 2 := by simpa using h2
  have n3 : ¬ w = 3 := by simpa using h3
  have n4 : ¬ w = 4 := by simpa using h4
  have n9 : ¬ w = 9 := by simpa using h9
  have n10 : ¬ w = 10 := by simpa using h10
  have n11 : ¬ w = 11 := by simpa using h11
  have n12 : ¬ w = 12 := by simpa using h12
  have n13 : ¬ w = 13 := by simpa using h13
  have n14 : ¬ w = 14 := by simpa using h14
  have n15 : ¬ w = 15 := by simpa using h15
  unfold doesW
  rw [if_neg n0, if_neg n1, if_neg n2, if_neg n3, if_neg n4, if_neg n9, if_neg n10, if_neg (fun h => h.elim n11 n12), if_neg n13, if_neg n14, if_neg n15]
  rfl
end Go.Cv
