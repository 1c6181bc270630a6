/- The law LabelLattice of marqueelaw01 returns true for every three levels and every row of numbers; no condition. -/
import Derived.Test.YtanhfplbimefmaaL10
import Derived.Test.YtanhfplbimefmaaRows
import Derived.WalkKit
import Derived.ProofKit
namespace Go.Proofs.Ytanhfplbimefmaa.labelLattice
open Go.ChangeShapes Go.WideShapes Go.ChangeAt Go.RowKit Go.Cv
set_option maxRecDepth 100000
theorem own : ownKnob Try.prog.godebug = none := by kernel_rfl
theorem laidOut : laidOutB Try.prog = true := by kernel_rfl
theorem law_sem (u : List V) (hl : u.length = 3) (hu : ∀ j, j < 3 → ShOk ([.int .u8, .int .u8, .int .u8].getD j .bool) (u.getD j .undef)) (v : V) (h : ShOk (.sl [.int .u8]) v) : Go.Cv.Sem Try.prog 4 [.agg u, v] [] fun v _ => v = .bool true := by
  obtain ⟨xs, rfl, _, _⟩ := rows_of (f := lv) (p := fun _ => True) (fun y hy hs => by
    match y, hy with
    | [a], _ =>
      have h0 := hs 0 (by simp)
      simp at h0
      cases h0 with
      | int _ n hw => exact ⟨n, rfl, trivial⟩) h
  match u, hl with
  | [a, b, c], _ =>
    have h0 := hu 0 (by simp)
    have h1 := hu 1 (by simp)
    have h2 := hu 2 (by simp)
    simp at h0 h1 h2
    match a, b, c, h0, h1, h2 with
    | _, _, _, .int _ x _, .int _ y _, .int _ z _ => exact lattice_sem x y z xs
theorem lifted (os : Os) (started : os.Started) (H : Type) (enc : TypeId × Value → H) :
    ReturnsInHanded {} Try.checked os 4 .any (Rows.labelLatticeSpec.pre6 enc Try.prog Try.f4 Rows.labelLatticeRow.domain false) (Rows.labelLatticeSpec.post enc Try.prog Try.f4 false true false false) := by
  refine returnsInHanded_of_change_sized (C := Try.checked) own started (by kernel_rfl) Try.func4
    (ChangeSpec.witness6 (enc := enc) (C := Try.checked) false ⟨#[], #[.agg #[.int .u8 0, .int .u8 0, .int .u8 0], .slice none 0 0], []⟩ 8 (by kernel_rfl) (by kernel_rfl) (by kernel_rfl) (by kernel_rfl)) ?_
  intro W base args ds gs before hval0 hW hcnd hsz0 _
  have hval : ∀ (j : Nat) t v, Try.f4.params[j]? = some t → args[j]? = some v → Value.okWide Try.prog W .any base t v := hval0
  have hW' := hW
  obtain ⟨p, q, hA0, hV, rfl, hfz, hnd⟩ := hW
  have hA : DataW.TrodAll enc Try.prog W 0 (fun _ => true) true Try.f4.params.toList args.toList ds p := hA0
  rw [Try.params4] at hA hval
  obtain ⟨v0, vs0, d0, ds0, p0, q0, hargs, rfl, rfl, h0, r0⟩ := trodAll_cons hA
  obtain ⟨v1, vs1, d1, ds1, p1, q1, rfl, rfl, rfl, h1, r1⟩ := trodAll_cons r0
  obtain ⟨rfl, rfl, rfl⟩ := trodAll_nil r1
  obtain rfl : args = #[v0, v1] := by cases args; simp_all
  obtain ⟨rfl, rfl⟩ := trodVars_none hV
  have lt0 : ∀ x ∈ p0, x.block < W.heap.size := by obtain ⟨m, hm⟩ := h0; exact DataW.trod_lt m _ _ _ hm
  obtain ⟨u0, l0, s0, e0⟩ := open_agg (t := 30) 8 (ss := [.int .u8, .int .u8, .int .u8]) (by kernel_rfl) (by kernel_rfl) (hval 0 30 v0 rfl rfl) h0
  have lt1 : ∀ x ∈ p1, x.block < W.heap.size := by obtain ⟨m, hm⟩ := h1; exact DataW.trod_lt m _ _ _ hm
  obtain ⟨u1, s1, e1⟩ := open_one (t := 31) 8 (s := .sl [.int .u8]) (by kernel_rfl) (by kernel_rfl) (hval 1 31 v1 rfl rfl) h1
  refine (walk_true (law_sem u0 l0 s0 u1 s1) (rvl2 e0 e1)).mono fun e W' ⟨he, bel⟩ => ?_
  subst he
  exact ⟨_, rfl, _, _, _, [], _, [], hW', trodAll_mk1 (shut_bool Try.underlying4 _), (trodAll_cons_mk (Below.trod laidOut (by kernel_rfl) (of_decide_eq_true (by kernel_rfl)) h0 bel lt0) (trodAll_cons_mk (Below.trod laidOut (by kernel_rfl) (of_decide_eq_true (by kernel_rfl)) h1 bel lt1) trodAll_mk0)), rfl, bel.frame _, fun h => by cases h⟩
theorem over : Rows.labelLatticeRow.holds Try.pinned (OpenSpec.ofChange Rows.labelLatticeSpec) :=
  OpenClaim.holds_of_wide 4 Try.f4 rfl rfl rfl rfl rfl rfl rfl ⟨rfl, rfl, rfl, rfl, rfl⟩ rfl rfl rfl rfl rfl (by kernel_rfl) Try.func4 (by kernel_rfl)
    (of_decide_eq_true (by kernel_rfl)) (by unfold Func.isWrapper; first | (rw [if_pos (by decide +kernel)]; kernel_rfl) | (rw [if_neg (by decide +kernel)]; exact ⟨rfl, rfl⟩))
    (fun os started H enc _ => lifted os started H enc)
theorem proved : Rows.LabelLatticeSaid := over
end Go.Proofs.Ytanhfplbimefmaa.labelLattice
namespace Go.Proofs.Ytanhfplbimefmaa
/-- The row, for the claim. -/
theorem labelLattice_holds : Rows.LabelLatticeSaid := labelLattice.proved
#print axioms labelLattice_holds
end Go.Proofs.Ytanhfplbimefmaa
