/- What functions of this seat compute, each for every argument of the shapes that are named; no condition beside the stated ones. -/
import Derived.Test.YtphpngpfllealaaLX11
namespace Go.Cv
open Go.Proofs
set_option maxRecDepth 100000
set_option maxHeartbeats 4000000

def stB (s : St) : Option Blk := some (.cells [.int .i64 s.a.rows, .int .i64 s.a.cols, .int .i64 s.a.top, .int .i64 s.a.bottom, .bool s.a.org, .int .u8 s.a.base, .int .i64 s.c.row, .int .i64 s.c.col, .bool s.c.wrap, .int .u8 s.c.lab])
theorem ne_ar (a b c d f : Int) (e : Bool) : (!(a == a && (b == b && (c == c && (d == d && (e == e && (f == f && true))))))) = false := by simp
theorem ne_cu (a b d : Int) (c : Bool) : (!(a == a && (b == b && (c == c && (d == d && true))))) = false := by simp
theorem ne_b (a : Bool) : (!(a == a)) = false := by simp

theorem plays_sem (p q : Int) (xs : List Ac) (hx : ∀ x ∈ xs, x.ok) (c : Cu) (hc : 0 ≤ c.lab) : Sem Try.prog 3 [.agg [.int .i16 p, .int .i16 q], .psl 4 (xs.map Ac.l) .any, c.v] [] fun v _ => v = .bool true := by
  refine Sem.of_body tysOk Try.func3 rfl rfl ?_
  refine ⟨by decide, by decide, by decide, by decide, ?_⟩
  have hL : 0 ≤ IntKind.u8.wrap ((IntKind.u16.wrap p).tmod 2) ∧ IntKind.u8.wrap ((IntKind.u16.wrap p).tmod 2) ≤ 1 := by
    have h1 : 0 ≤ IntKind.u16.wrap p := by simp [IntKind.wrap, IntKind.signed, IntKind.bits]; omega
    rw [Int.tmod_eq_emod_of_nonneg h1]
    have h2 : IntKind.u8.wrap (IntKind.u16.wrap p % 2) = IntKind.u16.wrap p % 2 := by
      generalize IntKind.u16.wrap p = m at h1
      simp [IntKind.wrap, IntKind.signed, IntKind.bits]; omega
    rw [h2]; omega
  refine (new_fn _ _ _).sem _ ?_
  generalize hLL : IntKind.u8.wrap ((IntKind.u16.wrap p).tmod 2) = L at hL ⊢
  refine ⟨by decide, by decide, ?_⟩
  refine (rnew_fn _ _ _).sem _ ?_
  have hok := new_ok (IntKind.i64.wrap p) (IntKind.i64.wrap q) L hL.1 hL.2
  generalize newS (IntKind.i64.wrap p) (IntKind.i64.wrap q) L = a at hok ⊢
  refine (home_fn a hok).sem _ ?_
  refine (rhome_fn a hok).sem _ ?_
  refine ⟨by decide, ?_⟩
  have hcl : 0 ≤ c.lab.tmod 2 ∧ c.lab.tmod 2 ≤ 1 := by rw [Int.tmod_eq_emod_of_nonneg hc]; omega
  generalize c.lab.tmod 2 = lab at hcl ⊢
  refine LoopP.inv (fun k env h => ∃ (i : Nat) (s : St), i + k = 60 ∧ right s ∧ h = [some (.cells [.int .i16 p, .int .i16 q]), some (.cells [.int .i64 c.row, .int .i64 c.col, .bool c.wrap, .int .u8 lab]), stB s, stB s] ∧ env = .undef :: .psl 4 (xs.map Ac.l) .any :: .undef :: .undef :: .undef :: .ptr 1 0 :: .undef :: .undef :: .ptr 2 0 :: .ptr 3 0 :: .int .i64 i :: List.replicate 189 .undef) 60 ?_ ?_
  · refine ⟨_, _, .same ?_ rfl, 0, ⟨a, homeS a⟩, by omega, ⟨hok, goto_inn hok 1 1⟩, rfl, rfl⟩
    repeat (first | exact trivial | refine ⟨.inl rfl, ?_⟩ | refine ⟨.inr rfl, ?_⟩)
  · rintro k env h ⟨i, s, hik, hs, rfl, rfl⟩
    have hlen : (xs.map Ac.l).length = xs.length := List.length_map _
    refine ⟨fun h1 => ?_, fun h1 => ?_⟩
    · have hi : i < xs.length := by simpa using h1
      refine BCase.yes rfl ?_
      refine ⟨fun h2 => ?_, fun h2 => ?_⟩
      · have h2' : i < 60 := by
          have h3 : (i : Int) < 60 := by simpa using h2
          omega
        have hxi := hx _ (List.getElem_mem hi)
        refine DrawP.intro tysOk mixed ?_
        refine ⟨Ac.l xs[i], ⟨by omega, by simp [hi]⟩, ?_⟩
        refine ⟨_, does_fn xs[i] hxi s hs, ?_⟩
        refine ⟨by kernel_rfl, ?_⟩
        refine DrawP.intro tysOk mixed ?_
        refine ⟨Ac.l xs[i], ⟨by omega, by simp [hi]⟩, ?_⟩
        refine ⟨_, says_fn xs[i] hxi s hs, ?_⟩
        refine ⟨by kernel_rfl, ?_⟩
        have ht := does_right (x := xs[i]) hs
        generalize doesS xs[i] s = T at ht ⊢
        obtain ⟨t, is⟩ := T
        refine BCase.no (ne_ar _ _ _ _ _ _) ?_
        repeat (first | refine BCase.yes rfl ?_ | refine BCase.no rfl ?_)
        refine BCase.no (ne_cu _ _ _ _) ?_
        repeat (first | refine BCase.yes rfl ?_ | refine BCase.no rfl ?_)
        refine BCase.no (ne_b _) ?_
        repeat (first | refine BCase.yes rfl ?_ | refine BCase.no rfl ?_)
        have hta : t.a.ok := ht.a
        have htc : t.c.inn t.a := ht.c
        refine (report_fn t.a hta t.c htc).sem _ ?_
        refine (rreport_fn t.a hta t.c htc).sem _ ?_
        refine DrawP.intro tysOk mixed ?_
        refine BCase.no (bne_self_eq_false _) ?_
        repeat (first | refine BCase.yes rfl ?_ | refine BCase.no rfl ?_)
        refine BCase.no (bne_self_eq_false _) ?_
        repeat (first | refine BCase.yes rfl ?_ | refine BCase.no rfl ?_)
        refine ⟨_, withinA_fn t.a hta ⟨c.row, c.col, c.wrap, lab⟩, ?_⟩
        repeat (first | refine BCase.yes rfl ?_ | refine BCase.no rfl ?_)
        refine ⟨_, rwithinA_fn t.a hta ⟨c.row, c.col, c.wrap, lab⟩ hcl, ?_⟩
        repeat (first | refine BCase.yes rfl ?_ | refine BCase.no rfl ?_)
        refine ⟨by kernel_rfl, ?_⟩
        refine BCase.no (ne_cu _ _ _ _) ?_
        refine DrawP.intro tysOk mixed ?_
        refine ⟨by decide, by decide, by decide, by decide, ?_⟩
        refine ⟨by kernel_rfl, ?_⟩
        refine DrawP.intro tysOk mixed ?_
        refine ⟨_, withinA_fn t.a hta ⟨c.row.tmod 1000, c.col.tmod 1000, false, 0⟩, ?_⟩
        repeat (first | refine BCase.yes rfl ?_ | refine BCase.no rfl ?_)
        refine ⟨_, rwithinA_fn t.a hta ⟨c.row.tmod 1000, c.col.tmod 1000, false, 0⟩ ⟨Int.le_refl 0, by show (0 : Int) ≤ 1; decide⟩, ?_⟩
        repeat (first | refine BCase.yes rfl ?_ | refine BCase.no rfl ?_)
        refine BCase.no (ne_cu _ _ _ _) ?_
        repeat (first | refine BCase.yes rfl ?_ | refine BCase.no rfl ?_)
        refine ⟨_, goto_fn t.a hta _ _, ?_⟩
        repeat (first | refine BCase.yes rfl ?_ | refine BCase.no rfl ?_)
        refine ⟨_, rgoto_fn t.a hta _ _, ?_⟩
        repeat (first | refine BCase.yes rfl ?_ | refine BCase.no rfl ?_)
        refine BCase.no (ne_cu _ _ _ _) ?_
        repeat (first | refine BCase.yes rfl ?_ | refine BCase.no rfl ?_)
        refine ⟨_, move_fn t.a hta t.c htc _ _, ?_⟩
        repeat (first | refine BCase.yes rfl ?_ | refine BCase.no rfl ?_)
        refine ⟨_, rmove_fn t.a hta t.c htc _ _, ?_⟩
        repeat (first | refine BCase.yes rfl ?_ | refine BCase.no rfl ?_)
        refine ⟨by kernel_rfl, ?_⟩
        refine BCase.no (ne_cu _ _ _ _) ?_
        refine ⟨k - 1, _, [_, _, _, _], by omega, .cut ?_ (Nat.le_refl 4) rfl rfl, i + 1, t, by omega, ht, rfl, rfl⟩
        rw [show ((i + 1 : Nat) : Int) = IntKind.i64.wrap ((i : Int) + 1) from (wr64 (by omega) (by omega)).symm]
        repeat (first | exact trivial | refine ⟨.inl rfl, ?_⟩ | refine ⟨.inr rfl, ?_⟩)
      · refine works_fn.sem _ ?_
        rfl
    · refine BCase.no rfl ?_
      refine BCase.no rfl ?_
      refine works_fn.sem _ ?_
      rfl
end Go.Cv
