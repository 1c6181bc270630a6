/- The law PrintKnown of marqueelaw19 returns true; no condition. -/
import Derived.Test.YtchadfgdcncpkaaGreatLL8g
import Derived.Test.YtchadfgdcncpkaaGreatCx13g
import Derived.Test.YtchadfgdcncpkaaGreatRows
import Derived.WalkKit
import Derived.ProofKit
namespace Go.Proofs.YtchadfgdcncpkaaGreat.printKnown
open Go.ChangeShapes Go.WideShapes Go.ChangeAt Go.RowKit Go.Cx
set_option maxRecDepth 100000
theorem own : ownKnob Tryz.prog.godebug = none := by kernel_rfl
theorem laidOut : laidOutB Tryz.prog = true := by kernel_rfl
theorem law_sem : Go.Cx.Sem Tryz.prog 4 [] [] fun v _ => v = .bool true := known19.run
theorem lifted (os : Os) (started : os.Started) (H : Type) (enc : TypeId × Value → H) :
    ReturnsInHanded {} Tryz.checked os 4 .any (Rows.printKnownSpec.pre6 enc Tryz.prog Tryz.f4 Rows.printKnownRow.domain false) (Rows.printKnownSpec.post enc Tryz.prog Tryz.f4 false true false false) := by
  refine returnsInHanded_of_change_sized (C := Tryz.checked) own started (by kernel_rfl) Tryz.func4
    (ChangeSpec.witness6 (enc := enc) (C := Tryz.checked) false ⟨#[], #[], []⟩ 8 (by kernel_rfl) (by kernel_rfl) (by kernel_rfl) (by kernel_rfl)) ?_
  intro W base args ds gs before hval0 hW hcnd hsz0 _
  have hval : ∀ (j : Nat) t v, Tryz.f4.params[j]? = some t → args[j]? = some v → Value.okWide Tryz.prog W .any base t v := hval0
  have hW' := hW
  obtain ⟨p, q, hA0, hV, rfl, hfz, hnd⟩ := hW
  have hA : DataW.TrodAll enc Tryz.prog W 0 (fun _ => true) true Tryz.f4.params.toList args.toList ds p := hA0
  rw [Tryz.params4] at hA hval
  obtain ⟨rfl, rfl, rfl⟩ := trodAll_none hA
  obtain ⟨rfl, rfl⟩ := trodVars_none hV
  refine (walk_true (by kernel_rfl) law_sem (rvl_nil _ _) (fun _ _ h => by cases h)).mono fun e W' ⟨he, bel⟩ => ?_
  subst he
  exact ⟨_, rfl, _, _, _, [], _, [], hW', trodAll_mk1 (shut_bool Tryz.underlying4 _), trodAll_mk0, rfl, bel.frame _, fun h => by cases h⟩
theorem over : Rows.printKnownRow.holds Tryz.pinned (OpenSpec.ofChange Rows.printKnownSpec) :=
  OpenClaim.holds_of_wide 4 Tryz.f4 rfl rfl rfl rfl rfl rfl rfl ⟨rfl, rfl, rfl, rfl, rfl⟩ rfl rfl rfl rfl rfl (by kernel_rfl) Tryz.func4 (by kernel_rfl)
    (of_decide_eq_true (by kernel_rfl)) (by unfold Func.isWrapper; first | (rw [if_pos (by decide +kernel)]; kernel_rfl) | (rw [if_neg (by decide +kernel)]; exact ⟨rfl, rfl⟩))
    (fun os started H enc _ => lifted os started H enc)
theorem proved : Rows.PrintKnownSaid := over
end Go.Proofs.YtchadfgdcncpkaaGreat.printKnown
namespace Go.Proofs.YtchadfgdcncpkaaGreat
/-- The row, for the claim. -/
theorem printKnown_holds : Rows.PrintKnownSaid := printKnown.proved
#print axioms printKnown_holds
end Go.Proofs.YtchadfgdcncpkaaGreat
