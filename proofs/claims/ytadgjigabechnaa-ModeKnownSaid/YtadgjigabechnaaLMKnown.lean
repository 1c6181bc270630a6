/- The law ModeKnown of marqueelaw15 returns true; no condition. -/
import Derived.Test.YtadgjigabechnaaLM10g
import Derived.Test.YtadgjigabechnaaCx13g
import Derived.Test.YtadgjigabechnaaRows
import Derived.WalkKit
import Derived.ProofKit
namespace Go.Proofs.Ytadgjigabechnaa.modeKnown
open Go.ChangeShapes Go.WideShapes Go.ChangeAt Go.RowKit Go.Cx
set_option maxRecDepth 100000
theorem own : ownKnob Try.prog.godebug = none := by kernel_rfl
theorem laidOut : laidOutB Try.prog = true := by kernel_rfl
theorem law_sem : Go.Cx.Sem Try.prog 7 [] [] fun v _ => v = .bool true := known_law
theorem lifted (os : Os) (started : os.Started) (H : Type) (enc : TypeId × Value → H) :
    ReturnsInHanded {} Try.checked os 7 .any (Rows.modeKnownSpec.pre6 enc Try.prog Try.f7 Rows.modeKnownRow.domain false) (Rows.modeKnownSpec.post enc Try.prog Try.f7 false true false false) := by
  refine returnsInHanded_of_change_sized (C := Try.checked) own started (by kernel_rfl) Try.func7
    (ChangeSpec.witness6 (enc := enc) (C := Try.checked) false ⟨#[], #[], []⟩ 8 (by kernel_rfl) (by kernel_rfl) (by kernel_rfl) (by kernel_rfl)) ?_
  intro W base args ds gs before hval0 hW hcnd hsz0 _
  have hval : ∀ (j : Nat) t v, Try.f7.params[j]? = some t → args[j]? = some v → Value.okWide Try.prog W .any base t v := hval0
  have hW' := hW
  obtain ⟨p, q, hA0, hV, rfl, hfz, hnd⟩ := hW
  have hA : DataW.TrodAll enc Try.prog W 0 (fun _ => true) true Try.f7.params.toList args.toList ds p := hA0
  rw [Try.params7] at hA hval
  obtain ⟨rfl, rfl, rfl⟩ := trodAll_none hA
  obtain ⟨rfl, rfl⟩ := trodVars_none hV
  refine (walk_true (by kernel_rfl) law_sem (rvl_nil _ _) (fun _ _ h => by cases h)).mono fun e W' ⟨he, bel⟩ => ?_
  subst he
  exact ⟨_, rfl, _, _, _, [], _, [], hW', trodAll_mk1 (shut_bool Try.underlying4 _), trodAll_mk0, rfl, bel.frame _, fun h => by cases h⟩
theorem over : Rows.modeKnownRow.holds Try.pinned (OpenSpec.ofChange Rows.modeKnownSpec) :=
  OpenClaim.holds_of_wide 7 Try.f7 rfl rfl rfl rfl rfl rfl rfl ⟨rfl, rfl, rfl, rfl, rfl⟩ rfl rfl rfl rfl rfl (by kernel_rfl) Try.func7 (by kernel_rfl)
    (of_decide_eq_true (by kernel_rfl)) (by unfold Func.isWrapper; first | (rw [if_pos (by decide +kernel)]; kernel_rfl) | (rw [if_neg (by decide +kernel)]; exact ⟨rfl, rfl⟩))
    (fun os started H enc _ => lifted os started H enc)
theorem proved : Rows.ModeKnownSaid := over
end Go.Proofs.Ytadgjigabechnaa.modeKnown
namespace Go.Proofs.Ytadgjigabechnaa
/-- The row, for the claim. -/
theorem modeKnown_holds : Rows.ModeKnownSaid := modeKnown.proved
#print axioms modeKnown_holds
end Go.Proofs.Ytadgjigabechnaa
