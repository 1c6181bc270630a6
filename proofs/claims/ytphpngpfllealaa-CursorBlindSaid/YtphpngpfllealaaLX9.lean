/- What functions of this seat compute, each for every argument of the shapes that are named; no condition beside the stated ones. -/
import Derived.Test.YtphpngpfllealaaLX8
namespace Go.Cv
open Go.Proofs
set_option maxRecDepth 100000
set_option maxHeartbeats 4000000

structure Sim (s t : St) : Prop where
  a : s.a = t.a
  l : s.c.lab = t.c.lab
  c : s.c.lab = 0 → s.c = t.c
theorem Sim.refl (s : St) : Sim s s := ⟨rfl, rfl, fun _ => rfl⟩
theorem index_lab (a : Ar) (c : Cu) : (indexS a c).1.lab = c.lab := by unfold indexS; split <;> rfl
theorem rev_lab (a : Ar) (c : Cu) : (revS a c).1.lab = c.lab := by unfold revS; split <;> rfl
theorem does_sim (w : Int) (x : Ac) (s t : St) (hs : right s) (ht : right t) (h : Sim s t) : Sim (doesW w x s).1 (doesW w x t).1 := by
  obtain ⟨ha, hl, hc⟩ := h
  obtain ⟨a, c⟩ := s
  obtain ⟨b, d⟩ := t
  simp only at ha hl hc
  subst ha
  have b1 := hs.a.l1; have b2 := hs.c.l1; have b3 := ht.c.l1
  simp only at b1 b2 b3
  by_cases h0 : c.lab = 0
  · rw [hc h0]; exact Sim.refl _
  · have h1 : c.lab > 0 := by omega
    have h2 : d.lab > 0 := by omega
    unfold doesW
    by_cases c0 : w = 0
    · rw [if_pos c0, if_pos c0]
      by_cases hm : (marginsS a (nearS x.a) (nearS x.b)).2 = true
      · simp only [hm, if_true]; exact Sim.refl _
      · simp only [hm]; exact ⟨rfl, hl, fun h => absurd h h0⟩
    rw [if_neg c0, if_neg c0]
    by_cases c1 : w = 1
    · rw [if_pos c1, if_pos c1]
      have e1 : jn2 c.lab a.base = 1 := by simp [jn2, h1]
      have e2 : jn2 d.lab a.base = 1 := by simp [jn2, h2]
      refine ⟨rfl, e1.trans e2.symm, fun h => ?_⟩
      have : jn2 c.lab a.base = 0 := h
      omega
    rw [if_neg c1, if_neg c1]
    by_cases c2 : w = 2
    · rw [if_pos c2, if_pos c2]; exact Sim.refl _
    rw [if_neg c2, if_neg c2]
    by_cases c3 : w = 3
    · rw [if_pos c3, if_pos c3]; exact Sim.refl _
    rw [if_neg c3, if_neg c3]
    by_cases c4 : w = 4
    · rw [if_pos c4, if_pos c4]; exact Sim.refl _
    rw [if_neg c4, if_neg c4]
    by_cases c9 : w = 9
    · rw [if_pos c9, if_pos c9]; exact ⟨rfl, hl, fun h => absurd h h0⟩
    rw [if_neg c9, if_neg c9]
    by_cases c10 : w = 10
    · rw [if_pos c10, if_pos c10]; exact ⟨rfl, hl, fun h => absurd h h0⟩
    rw [if_neg c10, if_neg c10]
    by_cases c11 : w = 11 ∨ w = 12
    · rw [if_pos c11, if_pos c11]
      exact ⟨rfl, (index_lab a c).trans (hl.trans (index_lab a d).symm), fun h => absurd ((index_lab a c).symm.trans h) h0⟩
    rw [if_neg c11, if_neg c11]
    by_cases c13 : w = 13
    · rw [if_pos c13, if_pos c13]
      exact ⟨rfl, (rev_lab a c).trans (hl.trans (rev_lab a d).symm), fun h => absurd ((rev_lab a c).symm.trans h) h0⟩
    rw [if_neg c13, if_neg c13]
    by_cases c14 : w = 14
    · rw [if_pos c14, if_pos c14]
      have e1 : jn2 (jn2 c.lab 0) (x.a.tmod 2) = 1 := by rw [show jn2 c.lab 0 = 1 by simp [jn2, h1]]; simp [jn2]
      have e2 : jn2 (jn2 d.lab 0) (x.a.tmod 2) = 1 := by rw [show jn2 d.lab 0 = 1 by simp [jn2, h2]]; simp [jn2]
      refine ⟨rfl, e1.trans e2.symm, fun h => ?_⟩
      have : jn2 (jn2 c.lab 0) (x.a.tmod 2) = 0 := h
      omega
    rw [if_neg c14, if_neg c14]
    by_cases c15 : w = 15
    · rw [if_pos c15, if_pos c15]; exact ⟨rfl, hl, fun h => absurd h h0⟩
    rw [if_neg c15, if_neg c15]
    exact ⟨rfl, hl, fun h => absurd h h0⟩

theorem blind_sem (p q : Int) (hp : 0 ≤ p ∧ p ≤ 65535) (hq : 0 ≤ q ∧ q ≤ 65535) (c d : Cu) (xs : List Ac) (hx : ∀ x ∈ xs, x.ok) : Sem Try.prog 7 [.agg [.int .u16 p, .int .u16 q], .agg [.int .i64 c.row, .int .i64 c.col, .bool c.wrap, .int .u8 c.lab, .int .i64 d.row, .int .i64 d.col, .bool d.wrap, .int .u8 d.lab], .psl 4 (xs.map Ac.l) .any] [] fun v _ => v = .bool true := by
  refine Sem.of_body tysOk Try.func7 rfl rfl ?_
  refine works_fn.sem _ ?_
  refine BCase.no rfl ?_
  refine (begun_fn p q hp hq false).sem _ ?_
  have hbeg : right (begS (p % 40) (q % 40) (if false = true then 1 else 0)) := beg_right _ _ _ (by split <;> omega) (by split <;> omega)
  have hb0 : (begS (p % 40) (q % 40) (if false = true then 1 else 0)).a.base = 0 := rfl
  generalize begS (p % 40) (q % 40) (if false = true then 1 else 0) = s0 at hbeg hb0 ⊢
  obtain ⟨a, c0⟩ := s0
  refine ⟨by decide, ?_⟩
  refine (withinA_fn a hbeg.a c).sem _ ?_
  refine (raise1_fn (withinS a c) 1).sem _ ?_
  refine ⟨by decide, ?_⟩
  refine (withinA_fn a hbeg.a d).sem _ ?_
  refine (raise1_fn (withinS a d) 1).sem _ ?_
  have w1 := within_inn hbeg.a c
  have w2 := within_inn hbeg.a d
  refine LoopP.inv (fun k env h => ∃ (i : Nat) (s t : St), i + k = 40 ∧ right s ∧ right t ∧ Sim s t ∧ h = [some (.cells [.int .u16 p, .int .u16 q]), some (.cells [.int .i64 c.row, .int .i64 c.col, .bool c.wrap, .int .u8 c.lab, .int .i64 d.row, .int .i64 d.col, .bool d.wrap, .int .u8 d.lab]), stB s, stB t] ∧ env = .undef :: .undef :: .psl 4 (xs.map Ac.l) .any :: .undef :: .undef :: .undef :: .undef :: .ptr 2 0 :: .ptr 3 0 :: .int .i64 i :: List.replicate 84 .undef) 40 ?_ ?_
  · refine ⟨_, _, .same ?_ rfl, 0, ⟨a, ⟨(withinS a c).row, (withinS a c).col, false, 1⟩⟩, ⟨a, ⟨(withinS a d).row, (withinS a d).col, false, 1⟩⟩, by omega, ⟨hbeg.a, w1.r1, w1.r2, w1.c1, w1.c2, by simp only at hb0 ⊢; omega, Int.le_refl _, fun h => by cases h⟩, ⟨hbeg.a, w2.r1, w2.r2, w2.c1, w2.c2, by simp only at hb0 ⊢; omega, Int.le_refl _, fun h => by cases h⟩, ⟨rfl, rfl, fun h => by cases h⟩, rfl, rfl⟩
    repeat (first | exact trivial | refine ⟨.inl rfl, ?_⟩ | refine ⟨.inr rfl, ?_⟩)
  · rintro k env h ⟨i, s, t, hik, hs, ht, hst, rfl, rfl⟩
    have hlen : (xs.map Ac.l).length = xs.length := List.length_map _
    refine ⟨fun h1 => ?_, fun h1 => ?_⟩
    · have hi : i < xs.length := by simpa using h1
      refine BCase.yes rfl ?_
      refine ⟨fun h2 => ?_, fun h2 => ?_⟩
      · have h2' : i < 40 := by
          have h3 : (i : Int) < 40 := by simpa using h2
          omega
        have hxi := hx _ (List.getElem_mem hi)
        refine DrawP.intro tysOk mixed ?_
        refine ⟨Ac.l xs[i], ⟨by omega, by simp [hi]⟩, ?_⟩
        refine ⟨_, does_fn xs[i] hxi s hs, ?_⟩
        refine ⟨by kernel_rfl, ?_⟩
        refine DrawP.intro tysOk mixed ?_
        refine ⟨Ac.l xs[i], ⟨by omega, by simp [hi]⟩, ?_⟩
        refine ⟨_, does_fn xs[i] hxi t ht, ?_⟩
        refine ⟨by kernel_rfl, ?_⟩
        have hs' := does_right (x := xs[i]) hs
        have ht' := does_right (x := xs[i]) ht
        have hst' : Sim (doesS xs[i] s).1 (doesS xs[i] t).1 := does_sim _ xs[i] s t hs ht hst
        generalize (doesS xs[i] s).1 = S at hs' hst' ⊢
        generalize (doesS xs[i] t).1 = T at ht' hst' ⊢
        obtain ⟨A, C⟩ := S
        obtain ⟨B, D⟩ := T
        obtain ⟨ha, hl, hc⟩ := hst'
        simp only at ha hl hc
        subst ha
        refine BCase.no (by simp) ?_
        repeat (first | refine BCase.yes rfl ?_ | refine BCase.no rfl ?_)
        refine BCase.no (by simp [hl]) ?_
        repeat (first | refine BCase.yes rfl ?_ | refine BCase.no rfl ?_)
        refine ⟨fun h0 => ?_, fun h0 => ?_⟩
        · have h0 : C.lab = 0 := by simpa using h0
          obtain rfl := hc h0
          repeat (first | refine BCase.yes rfl ?_ | refine BCase.no rfl ?_)
          refine BCase.no (by simp) ?_
          repeat (first | refine BCase.yes rfl ?_ | refine BCase.no rfl ?_)
          refine ⟨k - 1, _, _, by omega, .same ?_ rfl, i + 1, ⟨A, C⟩, ⟨A, C⟩, by omega, hs', ht', Sim.refl _, rfl, rfl⟩
          rw [show ((i + 1 : Nat) : Int) = IntKind.i64.wrap ((i : Int) + 1) from (wr64 (by omega) (by omega)).symm]
          repeat (first | exact trivial | refine ⟨.inl rfl, ?_⟩ | refine ⟨.inr rfl, ?_⟩)
        · have h0 : ¬ C.lab = 0 := by simpa using h0
          repeat (first | refine BCase.yes rfl ?_ | refine BCase.no rfl ?_)
          refine ⟨k - 1, _, _, by omega, .same ?_ rfl, i + 1, ⟨A, C⟩, ⟨A, D⟩, by omega, hs', ht', ⟨rfl, hl, fun h => absurd h h0⟩, rfl, rfl⟩
          rw [show ((i + 1 : Nat) : Int) = IntKind.i64.wrap ((i : Int) + 1) from (wr64 (by omega) (by omega)).symm]
          repeat (first | exact trivial | refine ⟨.inl rfl, ?_⟩ | refine ⟨.inr rfl, ?_⟩)
      · rfl
    · refine BCase.no rfl ?_
      refine BCase.no rfl ?_
      rfl
end Go.Cv
