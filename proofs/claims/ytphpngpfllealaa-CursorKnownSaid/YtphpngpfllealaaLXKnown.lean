/- The law CursorKnown of marqueelaw16 returns true; no condition. -/
import Derived.Test.YtphpngpfllealaaLX3
import Derived.Test.YtphpngpfllealaaCv14
import Derived.Test.YtphpngpfllealaaRows
import Derived.WalkKit
import Derived.ProofKit
namespace Go.Proofs.Ytphpngpfllealaa.cursorKnown
open Go.ChangeShapes Go.WideShapes Go.ChangeAt Go.RowKit Go.Cv
set_option maxRecDepth 100000
theorem own : ownKnob Try.prog.godebug = none := by kernel_rfl
theorem laidOut : laidOutB Try.prog = true := by kernel_rfl
theorem law_sem : Go.Cv.Sem Try.prog 8 [] [] fun v _ => v = .bool true := known_sem
theorem lifted (os : Os) (started : os.Started) (H : Type) (enc : TypeId × Value → H) :
    ReturnsInHanded {} Try.checked os 8 .any (Rows.cursorKnownSpec.pre6 enc Try.prog Try.f8 Rows.cursorKnownRow.domain false) (Rows.cursorKnownSpec.post enc Try.prog Try.f8 false true false false) := by
  refine returnsInHanded_of_change_sized (C := Try.checked) own started (by kernel_rfl) Try.func8
    (ChangeSpec.witness6 (enc := enc) (C := Try.checked) false ⟨#[], #[], []⟩ 8 (by kernel_rfl) (by kernel_rfl) (by kernel_rfl) (by kernel_rfl)) ?_
  intro W base args ds gs before hval0 hW hcnd hsz0 _
  have hval : ∀ (j : Nat) t v, Try.f8.params[j]? = some t → args[j]? = some v → Value.okWide Try.prog W .any base t v := hval0
  have hW' := hW
  obtain ⟨p, q, hA0, hV, rfl, hfz, hnd⟩ := hW
  have hA : DataW.TrodAll enc Try.prog W 0 (fun _ => true) true Try.f8.params.toList args.toList ds p := hA0
  rw [Try.params8] at hA hval
  obtain ⟨rfl, rfl, rfl⟩ := trodAll_none hA
  obtain ⟨rfl, rfl⟩ := trodVars_none hV
  refine (walk_true law_sem (rvl_nil _ _)).mono fun e W' ⟨he, bel⟩ => ?_
  subst he
  exact ⟨_, rfl, _, _, _, [], _, [], hW', trodAll_mk1 (shut_bool Try.underlying4 _), trodAll_mk0, rfl, bel.frame _, fun h => by cases h⟩
theorem over : Rows.cursorKnownRow.holds Try.pinned (OpenSpec.ofChange Rows.cursorKnownSpec) :=
  OpenClaim.holds_of_wide 8 Try.f8 rfl rfl rfl rfl rfl rfl rfl ⟨rfl, rfl, rfl, rfl, rfl⟩ rfl rfl rfl rfl rfl (by kernel_rfl) Try.func8 (by kernel_rfl)
    (of_decide_eq_true (by kernel_rfl)) (by unfold Func.isWrapper; first | (rw [if_pos (by decide +kernel)]; kernel_rfl) | (rw [if_neg (by decide +kernel)]; exact ⟨rfl, rfl⟩))
    (fun os started H enc _ => lifted os started H enc)
theorem proved : Rows.CursorKnownSaid := over
end Go.Proofs.Ytphpngpfllealaa.cursorKnown
namespace Go.Proofs.Ytphpngpfllealaa
/-- The row, for the claim. -/
theorem cursorKnown_holds : Rows.CursorKnownSaid := cursorKnown.proved
#print axioms cursorKnown_holds
end Go.Proofs.Ytphpngpfllealaa
