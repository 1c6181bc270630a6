/- What functions of this seat compute, each for every argument of the shapes that are named; no condition beside the stated ones. -/
import Derived.Test.YtphpngpfllealaaLX15
namespace Go.Cv
open Go.Proofs
set_option maxRecDepth 100000
set_option maxHeartbeats 4000000

def envW (d r : Int) (t16 t17 : V) : List V := .undef :: .undef :: .undef :: .undef :: .undef :: .undef :: .undef :: .undef :: .undef :: .ptr 7 0 :: .ptr 8 0 :: .int .i64 d :: .int .i64 r :: .ptr 9 0 :: .ptr 12 0 :: .ptr 13 0 :: t16 :: t17 :: List.replicate 243 .undef
theorem down0 {a : Ar} {c : Cu} (hc : c.inn a) : downS a c 0 = c.row := by have := row_last hc; unfold downS; omega
theorem up0 {a : Ar} {c : Cu} (hc : c.inn a) : upS a c 0 = c.row := by have := row_first hc; unfold upS; omega
theorem right0 {a : Ar} {c : Cu} (hc : c.inn a) : rightS a c 0 = c.col := by have := hc.c2; unfold rightS; omega
theorem left0 {a : Ar} {c : Cu} (hc : c.inn a) : leftS c 0 = c.col := by have := hc.c1; unfold leftS; omega

theorem two_ways {a : Ar} (ha : a.ok) {c : Cu} (hc : c.inn a) {d r : Int} (hd : 0 ≤ d ∧ d ≤ 512) (hr : 0 ≤ r ∧ r ≤ 512) : moveS a (moveS a c d 0) 0 r = moveS a c d r ∧ moveS a (moveS a c 0 r) d 0 = moveS a c d r := by
  have z : (0 : Int) ≤ 0 ∧ (0 : Int) ≤ 512 := ⟨by omega, by omega⟩
  have m1 := move_inn ha hc d 0
  have m2 := move_inn ha hc 0 r
  have e1 := move_dr hc hd z
  have e2 := move_dr hc z hr
  refine ⟨?_, ?_⟩
  · rw [move_dr m1 z hr, move_dr hc hd hr, down0 m1, e1]
    show Cu.mk (downS a c d) (min (rightS a c 0 + r) (a.cols - 1)) false c.lab = _
    rw [right0 hc]
    rfl
  · rw [move_dr m2 hd z, move_dr hc hd hr, right0 m2, e2]
    show Cu.mk (min (downS a c 0 + d) (lastS a ⟨downS a c 0, _, _, _⟩)) (rightS a c r) false c.lab = _
    unfold lastS
    simp only
    rw [down0 hc]
    rfl

theorem mC2 (a : Ar) (ha : a.ok) (c : Cu) (hc : c.inn a) (d r : Nat) (hd : d ≤ 30) (hr : r ≤ 30) (x y : Cu) (hx : x.inn a) (hy : y.inn a) (x1 : x.row = downS a c d) (x2 : x.col = c.col) (x3 : x.lab = c.lab) (y1 : y.row = upS a c d) (y2 : y.col = c.col) (y3 : y.lab = c.lab) :
    Wp Try.prog (tabOf tys) (tails code6 10) (envW d r .undef .undef) (hpM a c (moveS a c d r) x y) fun x env' h' => match x with | .exit _ => False | _ => retP (tabOf tys) Try.f6.results.toList env' h' fun v _ => v = .bool true := by
  refine Wp.seq (Wp.seq (Wp.of tysOk ?_))
  conv => whnf
  refine Wp.block ?_
  refine Wp.loop (fun k env h => ∃ (j : Nat) (x y : Cu), j + k = r ∧ x.inn a ∧ y.inn a ∧ x.row = downS a c d ∧ x.col = rightS a c j ∧ x.lab = c.lab ∧ y.row = upS a c d ∧ y.col = leftS c j ∧ y.lab = c.lab ∧ h = hpM a c (moveS a c d r) x y ∧ env = envW d r .undef (.int .i64 j)) r ?_ ?_
  · refine ⟨_, _, .of_forgE ?_, 0, x, y, by omega, hx, hy, x1, by rw [x2]; exact (right0 hc).symm, x3, y1, by rw [y2]; exact (left0 hc).symm, y3, rfl, rfl⟩
    repeat (first | exact trivial | refine ⟨.inl rfl, ?_⟩ | refine ⟨.inr rfl, ?_⟩)
  · rintro k env h ⟨j, x, y, hjk, hx, hy, x1, x2, x3, y1, y2, y3, rfl, rfl⟩
    refine Wp.of tysOk ?_
    refine ⟨fun h => ?_, fun h => ?_⟩
    · have hj : j < r := by
        have : (j : Int) < r := of_decide_eq_true h
        omega
      refine (move_fn a ha x hx 0 1).sem _ ?_
      refine (move_fn a ha y hy 0 (-1)).sem _ ?_
      have sx := step_right hc hx (i := j) (by omega) x2
      have sy := step_left hc hy (i := j) (by omega) y2
      refine ⟨k - 1, _, _, by omega, .of_forgE ?_, j + 1, moveS a x 0 1, moveS a y 0 (-1), by omega, move_inn ha hx _ _, move_inn ha hy _ _, by rw [sx]; exact x1, by rw [sx]; rfl, by rw [sx]; exact x3, by rw [sy]; exact y1, by rw [sy]; rfl, by rw [sy]; exact y3, rfl, rfl⟩
      unfold envW
      rw [show ((j + 1 : Nat) : Int) = IntKind.i64.wrap ((j : Int) + 1) from (wr64 (by omega) (by omega)).symm]
      repeat (first | exact trivial | refine ⟨.inl rfl, ?_⟩ | refine ⟨.inr rfl, ?_⟩)
    · have hj : j = r := by
        have : ¬ (j : Int) < r := of_decide_eq_false h
        omega
      subst hj
      conv => whnf
      have ex : moveS a c d j = ⟨x.row, x.col, false, x.lab⟩ := by rw [move_dr hc ⟨by omega, by omega⟩ ⟨by omega, by omega⟩, x1, x2, x3]
      have ey : moveS a c (-d) (-j) = ⟨y.row, y.col, false, y.lab⟩ := by rw [move_ul hc ⟨by omega, by omega⟩ ⟨by omega, by omega⟩, y1, y2, y3]
      have fin := mB a ha c hc d j ⟨by omega, by omega⟩ ⟨by omega, by omega⟩
      rw [ey] at fin
      rw [ex] at fin ⊢
      refine Wp.seq (Wp.of tysOk ?_)
      conv => whnf
      refine Wp.seq (Wp.of tysOk ?_)
      conv => whnf
      refine Wp.weak ?_ fin
      repeat (first | exact trivial | refine ⟨.inl rfl, ?_⟩ | refine ⟨.inr rfl, ?_⟩)

theorem mC1 (a : Ar) (ha : a.ok) (c : Cu) (hc : c.inn a) (d r : Nat) (hd : d ≤ 30) (hr : r ≤ 30) :
    Wp Try.prog (tabOf tys) (tails code6 9) (envW d r .undef .undef) (hpM a c (moveS a c d r) c c) fun x env' h' => match x with | .exit _ => False | _ => retP (tabOf tys) Try.f6.results.toList env' h' fun v _ => v = .bool true := by
  refine Wp.seq (Wp.seq (Wp.of tysOk ?_))
  conv => whnf
  refine Wp.block ?_
  refine Wp.loop (fun k env h => ∃ (j : Nat) (x y : Cu), j + k = d ∧ x.inn a ∧ y.inn a ∧ x.row = downS a c j ∧ x.col = c.col ∧ x.lab = c.lab ∧ y.row = upS a c j ∧ y.col = c.col ∧ y.lab = c.lab ∧ h = hpM a c (moveS a c d r) x y ∧ env = envW d r (.int .i64 j) .undef) d ?_ ?_
  · refine ⟨_, _, .of_forgE ?_, 0, c, c, by omega, hc, hc, (down0 hc).symm, rfl, rfl, (up0 hc).symm, rfl, rfl, rfl, rfl⟩
    repeat (first | exact trivial | refine ⟨.inl rfl, ?_⟩ | refine ⟨.inr rfl, ?_⟩)
  · rintro k env h ⟨j, x, y, hjk, hx, hy, x1, x2, x3, y1, y2, y3, rfl, rfl⟩
    refine Wp.of tysOk ?_
    refine ⟨fun h => ?_, fun h => ?_⟩
    · have hj : j < d := by
        have : (j : Int) < d := of_decide_eq_true h
        omega
      refine (move_fn a ha x hx 1 0).sem _ ?_
      refine (move_fn a ha y hy (-1) 0).sem _ ?_
      have sx := step_down ha hc hx (i := j) (by omega) x1
      have sy := step_up ha hc hy (i := j) (by omega) y1
      refine ⟨k - 1, _, _, by omega, .of_forgE ?_, j + 1, moveS a x 1 0, moveS a y (-1) 0, by omega, move_inn ha hx _ _, move_inn ha hy _ _, by rw [sx]; rfl, by rw [sx]; exact x2, by rw [sx]; exact x3, by rw [sy]; rfl, by rw [sy]; exact y2, by rw [sy]; exact y3, rfl, rfl⟩
      unfold envW
      rw [show ((j + 1 : Nat) : Int) = IntKind.i64.wrap ((j : Int) + 1) from (wr64 (by omega) (by omega)).symm]
      repeat (first | exact trivial | refine ⟨.inl rfl, ?_⟩ | refine ⟨.inr rfl, ?_⟩)
    · have hj : j = d := by
        have : ¬ (j : Int) < d := of_decide_eq_false h
        omega
      subst hj
      conv => whnf
      refine Wp.weak ?_ (mC2 a ha c hc j r hd hr x y hx hy x1 x2 x3 y1 y2 y3)
      repeat (first | exact trivial | refine ⟨.inl rfl, ?_⟩ | refine ⟨.inr rfl, ?_⟩)

/-- Both ways at once, and one behind the other. -/
theorem mD (s : St) (hs : right s) (u v : Int) (hu : 0 ≤ u ∧ u ≤ 255) (hv : 0 ≤ v ∧ v ≤ 255) :
    Wp Try.prog (tabOf tys) (tails code6 4) (.undef :: .undef :: .undef :: .undef :: .undef :: .ptr 1 0 :: .undef :: .ptr 2 0 :: List.replicate 253 .undef) [none, some (.cells [.int .u8 u, .int .u8 v]), stB s] fun x env' h' => match x with | .exit _ => False | _ => retP (tabOf tys) Try.f6.results.toList env' h' fun v _ => v = .bool true := by
  obtain ⟨a, c⟩ := s
  have ha : a.ok := hs.a
  have hc : c.inn a := hs.c
  have hU : ∃ d : Nat, IntKind.i64.wrap (u.tmod 30) = d ∧ d ≤ 30 := by
    rw [Int.tmod_eq_emod_of_nonneg hu.1, wr64 (by omega) (by omega)]
    exact ⟨(u % 30).toNat, by omega, by omega⟩
  have hV : ∃ r : Nat, IntKind.i64.wrap (v.tmod 30) = r ∧ r ≤ 30 := by
    rw [Int.tmod_eq_emod_of_nonneg hv.1, wr64 (by omega) (by omega)]
    exact ⟨(v % 30).toNat, by omega, by omega⟩
  obtain ⟨d, hd, hd2⟩ := hU
  obtain ⟨r, hr, hr2⟩ := hV
  refine Wp.seq (Wp.of tysOk ?_)
  refine DrawP.intro tysOk mixed ?_
  refine ⟨by kernel_rfl, ?_⟩
  conv => whnf
  refine Wp.seq (Wp.of tysOk ?_)
  refine DrawP.intro tysOk mixed ?_
  refine ⟨by decide, by decide, by decide, by decide, ?_⟩
  refine ⟨by kernel_rfl, ?_⟩
  conv => whnf
  rw [hd, hr]
  refine Wp.seq (Wp.of tysOk ?_)
  refine (move_fn a ha c hc _ _).sem _ ?_
  conv => whnf
  have b1 : 0 ≤ (d : Int) ∧ (d : Int) ≤ 512 := ⟨by omega, by omega⟩
  have b2 : 0 ≤ (r : Int) ∧ (r : Int) ≤ 512 := ⟨by omega, by omega⟩
  have m1 := move_inn ha hc d 0
  have m2 := move_inn ha hc 0 r
  refine Wp.seq (Wp.of tysOk ?_)
  refine DrawP.intro tysOk mixed ?_
  refine ⟨_, move_fn a ha c hc _ _, ?_⟩
  refine ⟨_, move_fn a ha _ m1 _ _, ?_⟩
  rw [(two_ways ha hc b1 b2).1]
  refine BCase.no (ne_cu _ _ _ _) ?_
  repeat (first | refine BCase.yes rfl ?_ | refine BCase.no rfl ?_)
  refine ⟨_, move_fn a ha c hc _ _, ?_⟩
  repeat (first | refine BCase.yes rfl ?_ | refine BCase.no rfl ?_)
  refine ⟨_, move_fn a ha _ m2 _ _, ?_⟩
  rw [(two_ways ha hc b1 b2).2]
  repeat (first | refine BCase.yes rfl ?_ | refine BCase.no rfl ?_)
  refine ⟨by kernel_rfl, ?_⟩
  refine BCase.no (ne_cu _ _ _ _) ?_
  conv => whnf
  refine Wp.seq (Wp.of tysOk ?_)
  refine DrawP.intro tysOk mixed ?_
  refine ⟨by kernel_rfl, ?_⟩
  conv => whnf
  refine Wp.weakT ?_ ?_ (mC1 a ha c hc d r hd2 hr2)
  · repeat (first | exact trivial | refine ⟨.inl rfl, ?_⟩ | refine ⟨.inr (.inl rfl), ?_⟩)
  · repeat (first | exact trivial | refine ⟨.inl rfl, ?_⟩ | refine ⟨.inr rfl, ?_⟩)

theorem moves_sem (p q : Int) (hp : 0 ≤ p ∧ p ≤ 65535) (hq : 0 ≤ q ∧ q ≤ 65535) (u v : Int) (hu : 0 ≤ u ∧ u ≤ 255) (hv : 0 ≤ v ∧ v ≤ 255) (xs : List Ac) (hx : ∀ x ∈ xs, x.ok) : Sem Try.prog 6 [.agg [.int .u16 p, .int .u16 q], .psl 4 (xs.map Ac.l) .any, .agg [.int .u8 u, .int .u8 v]] [] fun v _ => v = .bool true := by
  refine Sem.of_Wp tysOk Try.func6 rfl rfl ?_
  refine Wp.seq (Wp.of tysOk ?_)
  conv => whnf
  refine Wp.seq (Wp.seq (Wp.of tysOk ?_))
  refine works_fn.sem _ ?_
  conv => whnf
  refine Wp.cond rfl (fun h => by cases h) (fun _ => ?_)
  refine Wp.of tysOk ?_
  conv => whnf
  refine Wp.seq (Wp.of tysOk ?_)
  refine (begun_fn p q hp hq false).sem _ ?_
  have hbeg : right (begS (p % 40) (q % 40) (if false = true then 1 else 0)) := beg_right _ _ _ (by split <;> omega) (by split <;> omega)
  generalize begS (p % 40) (q % 40) (if false = true then 1 else 0) = s0 at hbeg ⊢
  conv => whnf
  refine Wp.seq (Wp.seq (Wp.of tysOk ?_))
  conv => whnf
  refine Wp.block ?_
  refine Wp.loop (fun k env h => ∃ (i : Nat) (s : St), i + k = 20 ∧ right s ∧ h = [none, some (.cells [.int .u8 u, .int .u8 v]), stB s] ∧ env = .undef :: .psl 4 (xs.map Ac.l) .any :: .undef :: .undef :: .undef :: .ptr 1 0 :: .undef :: .ptr 2 0 :: .int .i64 i :: List.replicate 252 .undef) 20 ?_ ?_
  · refine ⟨_, _, .same (forgT_of _ _ ?_) ?_, 0, s0, by omega, hbeg, rfl, rfl⟩
    · repeat (first | exact trivial | refine ⟨.inl rfl, ?_⟩ | refine ⟨.inr rfl, ?_⟩)
    · exact ⟨.inr rfl, .inl rfl, .inl rfl, trivial⟩
  · rintro k env h ⟨i, s, hik, hs, rfl, rfl⟩
    refine Wp.of tysOk ?_
    have hlen : (xs.map Ac.l).length = xs.length := List.length_map _
    refine ⟨fun h1 => ?_, fun h1 => ?_⟩
    · have hi : i < xs.length := by simpa using h1
      refine BCase.yes rfl ?_
      refine ⟨fun h2 => ?_, fun h2 => ?_⟩
      · have h2' : i < 20 := by
          have h3 : (i : Int) < 20 := by simpa using h2
          omega
        have hxi := hx _ (List.getElem_mem hi)
        refine DrawP.intro tysOk mixed ?_
        refine ⟨Ac.l xs[i], ⟨by omega, by simp [hi]⟩, ?_⟩
        refine ⟨_, does_fn xs[i] hxi s hs, ?_⟩
        refine ⟨by kernel_rfl, ?_⟩
        refine ⟨k - 1, _, _, by omega, .of_forgE ?_, i + 1, _, by omega, does_right (x := xs[i]) hs, rfl, rfl⟩
        rw [show ((i + 1 : Nat) : Int) = IntKind.i64.wrap ((i : Int) + 1) from (wr64 (by omega) (by omega)).symm]
        repeat (first | exact trivial | refine ⟨.inl rfl, ?_⟩ | refine ⟨.inr rfl, ?_⟩)
      · conv => whnf
        refine Wp.weak ?_ (mD s hs u v hu hv)
        repeat (first | exact trivial | refine ⟨.inl rfl, ?_⟩ | refine ⟨.inr rfl, ?_⟩)
    · refine BCase.no rfl ?_
      refine BCase.no rfl ?_
      conv => whnf
      refine Wp.weak ?_ (mD s hs u v hu hv)
      repeat (first | exact trivial | refine ⟨.inl rfl, ?_⟩ | refine ⟨.inr rfl, ?_⟩)
end Go.Cv
