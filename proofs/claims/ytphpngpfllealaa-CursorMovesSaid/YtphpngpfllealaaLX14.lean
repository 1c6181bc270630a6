/- What functions of this seat compute, each for every argument of the shapes that are named; no condition beside the stated ones. -/
import Derived.Test.YtphpngpfllealaaLX13
namespace Go.Cv
open Go.Proofs
set_option maxRecDepth 100000
set_option maxHeartbeats 4000000

/-- Index and Reverse, held against moves. -/
theorem mA (a : Ar) (ha : a.ok) (c : Cu) (hc : c.inn a) (hp : Heap) (hh : hp = [none, none, none, none, none, none, none, arB a, cuB c, none, none, none, none, none] ∨ hp = [none, none, none, none, none, none, none, arB a, cuB c, none, none, none, none, none, none]) :
    Wp Try.prog (tabOf tys) (tails code6 15) (List.replicate 9 .undef ++ .ptr 7 0 :: .ptr 8 0 :: List.replicate 250 .undef) hp fun x env' h' => match x with | .exit _ => False | _ => retP (tabOf tys) Try.f6.results.toList env' h' fun v _ => v = .bool true := by
  rcases hh with rfl | rfl
  all_goals
    refine Wp.of tysOk ?_
    refine (index_fn a ha c hc).sem _ ?_
    refine DrawP.intro tysOk mixed ?_
    by_cases h : c.row = a.bottom
    · have e : indexS a c = (stopS c, true) := by unfold indexS; rw [if_pos h]
      rw [e]
      refine BCase.no (by simp [h]) ?_
      repeat (first | refine BCase.yes rfl ?_ | refine BCase.no rfl ?_ | refine BCase.no (bne_self_eq_false _) ?_ | refine BCase.yes (beq_self_eq_true _) ?_ | refine BCase.no (ne_cu _ _ _ _) ?_ | refine BCase.yes (eq_cu _ _ _ _) ?_)
      refine ⟨by kernel_rfl, ?_⟩
      repeat (first | refine BCase.yes rfl ?_ | refine BCase.no rfl ?_ | refine BCase.no (bne_self_eq_false _) ?_ | refine BCase.yes (beq_self_eq_true _) ?_ | refine BCase.no (ne_cu _ _ _ _) ?_ | refine BCase.yes (eq_cu _ _ _ _) ?_)
      refine (reverse_fn a ha c hc).sem _ ?_
      refine DrawP.intro tysOk mixed ?_
      by_cases g : c.row = a.top
      · have e : revS a c = (stopS c, true) := by unfold revS; rw [if_pos g]
        rw [e]
        refine BCase.yes (by simp [g]) ?_
        repeat (first | refine BCase.yes rfl ?_ | refine BCase.no rfl ?_ | refine BCase.no (bne_self_eq_false _) ?_ | refine BCase.yes (beq_self_eq_true _) ?_ | refine BCase.no (ne_cu _ _ _ _) ?_ | refine BCase.yes (eq_cu _ _ _ _) ?_)
        exact ⟨by kernel_rfl, rfl⟩
      · have e : revS a c = (moveS a c (-1) 0, false) := by unfold revS; rw [if_neg g]
        rw [e]
        refine BCase.yes (by simp [g]) ?_
        repeat (first | refine BCase.yes rfl ?_ | refine BCase.no rfl ?_ | refine BCase.no (bne_self_eq_false _) ?_ | refine BCase.yes (beq_self_eq_true _) ?_ | refine BCase.no (ne_cu _ _ _ _) ?_ | refine BCase.yes (eq_cu _ _ _ _) ?_)
        refine ⟨_, move_fn a ha c hc (-1) 0, ?_⟩
        repeat (first | refine BCase.yes rfl ?_ | refine BCase.no rfl ?_ | refine BCase.no (bne_self_eq_false _) ?_ | refine BCase.yes (beq_self_eq_true _) ?_ | refine BCase.no (ne_cu _ _ _ _) ?_ | refine BCase.yes (eq_cu _ _ _ _) ?_)
        exact ⟨by kernel_rfl, congrArg V.bool (eq_cu _ _ _ _)⟩
    · have e : indexS a c = (moveS a c 1 0, false) := by unfold indexS; rw [if_neg h]
      rw [e]
      refine BCase.no (by simp [h]) ?_
      repeat (first | refine BCase.yes rfl ?_ | refine BCase.no rfl ?_ | refine BCase.no (bne_self_eq_false _) ?_ | refine BCase.yes (beq_self_eq_true _) ?_ | refine BCase.no (ne_cu _ _ _ _) ?_ | refine BCase.yes (eq_cu _ _ _ _) ?_)
      refine ⟨_, move_fn a ha c hc 1 0, ?_⟩
      repeat (first | refine BCase.yes rfl ?_ | refine BCase.no rfl ?_ | refine BCase.no (bne_self_eq_false _) ?_ | refine BCase.yes (beq_self_eq_true _) ?_ | refine BCase.no (ne_cu _ _ _ _) ?_ | refine BCase.yes (eq_cu _ _ _ _) ?_)
      refine ⟨by kernel_rfl, ?_⟩
      repeat (first | refine BCase.yes rfl ?_ | refine BCase.no rfl ?_ | refine BCase.no (bne_self_eq_false _) ?_ | refine BCase.yes (beq_self_eq_true _) ?_ | refine BCase.no (ne_cu _ _ _ _) ?_ | refine BCase.yes (eq_cu _ _ _ _) ?_)
      refine (reverse_fn a ha c hc).sem _ ?_
      refine DrawP.intro tysOk mixed ?_
      by_cases g : c.row = a.top
      · have e : revS a c = (stopS c, true) := by unfold revS; rw [if_pos g]
        rw [e]
        refine BCase.yes (by simp [g]) ?_
        repeat (first | refine BCase.yes rfl ?_ | refine BCase.no rfl ?_ | refine BCase.no (bne_self_eq_false _) ?_ | refine BCase.yes (beq_self_eq_true _) ?_ | refine BCase.no (ne_cu _ _ _ _) ?_ | refine BCase.yes (eq_cu _ _ _ _) ?_)
        exact ⟨by kernel_rfl, rfl⟩
      · have e : revS a c = (moveS a c (-1) 0, false) := by unfold revS; rw [if_neg g]
        rw [e]
        refine BCase.yes (by simp [g]) ?_
        repeat (first | refine BCase.yes rfl ?_ | refine BCase.no rfl ?_ | refine BCase.no (bne_self_eq_false _) ?_ | refine BCase.yes (beq_self_eq_true _) ?_ | refine BCase.no (ne_cu _ _ _ _) ?_ | refine BCase.yes (eq_cu _ _ _ _) ?_)
        refine ⟨_, move_fn a ha c hc (-1) 0, ?_⟩
        repeat (first | refine BCase.yes rfl ?_ | refine BCase.no rfl ?_ | refine BCase.no (bne_self_eq_false _) ?_ | refine BCase.yes (beq_self_eq_true _) ?_ | refine BCase.no (ne_cu _ _ _ _) ?_ | refine BCase.yes (eq_cu _ _ _ _) ?_)
        exact ⟨by kernel_rfl, congrArg V.bool (eq_cu _ _ _ _)⟩
end Go.Cv
