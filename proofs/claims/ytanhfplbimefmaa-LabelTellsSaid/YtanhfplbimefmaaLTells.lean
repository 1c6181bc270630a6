/- The law LabelTells of marqueelaw01 returns true for every row of levels; no condition. -/
import Derived.Test.YtanhfplbimefmaaL7
import Derived.Test.YtanhfplbimefmaaRows
import Derived.WalkKit
import Derived.ProofKit
namespace Go.Proofs.Ytanhfplbimefmaa.labelTells
open Go.ChangeShapes Go.WideShapes Go.ChangeAt Go.RowKit Go.Cv
set_option maxRecDepth 100000
theorem own : ownKnob Try.prog.godebug = none := by kernel_rfl
theorem laidOut : laidOutB Try.prog = true := by kernel_rfl
theorem wf_u8 {n : Int} (h : (Lit.int .u8 n).wf = true) : 0 ≤ n := by
  simp [Lit.wf, IntKind.min, IntKind.max, IntKind.signed, IntKind.bits] at h
  omega
theorem law_sem (u : V) (h : ShOk (.sl [.int .u8]) u) : Go.Cv.Sem Try.prog 3 [u] [] fun v _ => v = .bool true := by
  obtain ⟨xs, rfl, hl, hx⟩ := rows_of (f := lv) (p := fun x => 0 ≤ x) (fun y hy hs => by
    match y, hy with
    | [a], _ =>
      have h0 := hs 0 (by simp)
      simp at h0
      cases h0 with
      | int _ n hw => exact ⟨n, rfl, wf_u8 hw⟩) h
  exact tells_sem xs hx hl
theorem lifted (os : Os) (started : os.Started) (H : Type) (enc : TypeId × Value → H) :
    ReturnsInHanded {} Try.checked os 3 .any (Rows.labelTellsSpec.pre6 enc Try.prog Try.f3 Rows.labelTellsRow.domain false) (Rows.labelTellsSpec.post enc Try.prog Try.f3 false true false false) := by
  refine returnsInHanded_of_change_sized (C := Try.checked) own started (by kernel_rfl) Try.func3
    (ChangeSpec.witness6 (enc := enc) (C := Try.checked) false ⟨#[], #[.slice none 0 0], []⟩ 8 (by kernel_rfl) (by kernel_rfl) (by kernel_rfl) (by kernel_rfl)) ?_
  intro W base args ds gs before hval0 hW hcnd hsz0 _
  have hval : ∀ (j : Nat) t v, Try.f3.params[j]? = some t → args[j]? = some v → Value.okWide Try.prog W .any base t v := hval0
  have hW' := hW
  obtain ⟨p, q, hA0, hV, rfl, hfz, hnd⟩ := hW
  have hA : DataW.TrodAll enc Try.prog W 0 (fun _ => true) true Try.f3.params.toList args.toList ds p := hA0
  rw [Try.params3] at hA hval
  obtain ⟨v0, vs0, d0, ds0, p0, q0, hargs, rfl, rfl, h0, r0⟩ := trodAll_cons hA
  obtain ⟨rfl, rfl, rfl⟩ := trodAll_nil r0
  obtain rfl : args = #[v0] := by cases args; simp_all
  obtain ⟨rfl, rfl⟩ := trodVars_none hV
  have lt0 : ∀ x ∈ p0, x.block < W.heap.size := by obtain ⟨m, hm⟩ := h0; exact DataW.trod_lt m _ _ _ hm
  obtain ⟨u0, s0, e0⟩ := open_one (t := 22) 8 (s := .sl [.int .u8]) (by kernel_rfl) (by kernel_rfl) (hval 0 22 v0 rfl rfl) h0
  refine (walk_true (law_sem u0 s0) (rvl1 e0)).mono fun e W' ⟨he, bel⟩ => ?_
  subst he
  exact ⟨_, rfl, _, _, _, [], _, [], hW', trodAll_mk1 (shut_bool Try.underlying4 _), (trodAll_cons_mk (Below.trod laidOut (by kernel_rfl) (of_decide_eq_true (by kernel_rfl)) h0 bel lt0) trodAll_mk0), rfl, bel.frame _, fun h => by cases h⟩
theorem over : Rows.labelTellsRow.holds Try.pinned (OpenSpec.ofChange Rows.labelTellsSpec) :=
  OpenClaim.holds_of_wide 3 Try.f3 rfl rfl rfl rfl rfl rfl rfl ⟨rfl, rfl, rfl, rfl, rfl⟩ rfl rfl rfl rfl rfl (by kernel_rfl) Try.func3 (by kernel_rfl)
    (of_decide_eq_true (by kernel_rfl)) (by unfold Func.isWrapper; first | (rw [if_pos (by decide +kernel)]; kernel_rfl) | (rw [if_neg (by decide +kernel)]; exact ⟨rfl, rfl⟩))
    (fun os started H enc _ => lifted os started H enc)
theorem proved : Rows.LabelTellsSaid := over
end Go.Proofs.Ytanhfplbimefmaa.labelTells
namespace Go.Proofs.Ytanhfplbimefmaa
/-- The row, for the claim. -/
theorem labelTells_holds : Rows.LabelTellsSaid := labelTells.proved
#print axioms labelTells_holds
end Go.Proofs.Ytanhfplbimefmaa
