/- The law LabelApart of marqueelaw01 returns true for every text, every row of acts and every other texts; no condition. -/
import Derived.Test.YtanhfplbimefmaaL11
import Derived.Test.YtanhfplbimefmaaRows
import Derived.WalkKit
import Derived.ProofKit
namespace Go.Proofs.Ytanhfplbimefmaa.labelApart
open Go.ChangeShapes Go.WideShapes Go.ChangeAt Go.RowKit Go.Cv
set_option maxRecDepth 100000
theorem own : ownKnob Try.prog.godebug = none := by kernel_rfl
theorem laidOut : laidOutB Try.prog = true := by kernel_rfl
theorem wf_u8 {n : Int} (h : (Lit.int .u8 n).wf = true) : 0 ≤ n := by
  simp [Lit.wf, IntKind.min, IntKind.max, IntKind.signed, IntKind.bits] at h
  omega
theorem law_sem (u : List V) (hl : u.length = 3) (hu : ∀ j, j < 3 → ShOk ([.str, .int .u8, .int .i64].getD j .bool) (u.getD j .undef)) (v : V) (h : ShOk (.sl [.int .u8, .str, .int .u8]) v) (w : V) (g : ShOk (.sl [.str]) w) : Go.Cv.Sem Try.prog 6 [.agg u, v, w] [] fun v _ => v = .bool true := by
  obtain ⟨xs, rfl, _, _⟩ := rows_of (f := av) (p := fun _ => True) (fun y hy hs => by
    match y, hy with
    | [a, b, c], _ =>
      have h0 := hs 0 (by simp)
      have h1 := hs 1 (by simp)
      have h2 := hs 2 (by simp)
      simp at h0 h1 h2
      match a, b, c, h0, h1, h2 with
      | _, _, _, .int _ n _, .str s hs', .int _ k hk => exact ⟨(n, s, k), rfl, trivial⟩) h
  obtain ⟨os, rfl, ho, _⟩ := rows_of (f := sv) (p := fun _ => True) (fun y hy hs => by
    match y, hy with
    | [a], _ =>
      have h0 := hs 0 (by simp)
      simp at h0
      match a, h0 with
      | _, .str s hs' => exact ⟨s, rfl, trivial⟩) g
  match u, hl with
  | [a, b, c], _ =>
    have h0 := hu 0 (by simp)
    have h1 := hu 1 (by simp)
    have h2 := hu 2 (by simp)
    simp at h0 h1 h2
    match a, b, c, h0, h1, h2 with
    | _, _, _, .str s hs', .int _ n hn, .int _ k _ => exact apart_sem s n k (wf_u8 hn) xs os ho
theorem lifted (os : Os) (started : os.Started) (H : Type) (enc : TypeId × Value → H) :
    ReturnsInHanded {} Try.checked os 6 .any (Rows.labelApartSpec.pre6 enc Try.prog Try.f6 Rows.labelApartRow.domain false) (Rows.labelApartSpec.post enc Try.prog Try.f6 false true false false) := by
  refine returnsInHanded_of_change_sized (C := Try.checked) own started (by kernel_rfl) Try.func6
    (ChangeSpec.witness6 (enc := enc) (C := Try.checked) false ⟨#[], #[.agg #[.string ByteArray.empty, .int .u8 0, .int .i64 0], .slice none 0 0, .slice none 0 0], []⟩ 8 (by kernel_rfl) (by kernel_rfl) (by kernel_rfl) (by kernel_rfl)) ?_
  intro W base args ds gs before hval0 hW hcnd hsz0 _
  have hval : ∀ (j : Nat) t v, Try.f6.params[j]? = some t → args[j]? = some v → Value.okWide Try.prog W .any base t v := hval0
  have hW' := hW
  obtain ⟨p, q, hA0, hV, rfl, hfz, hnd⟩ := hW
  have hA : DataW.TrodAll enc Try.prog W 0 (fun _ => true) true Try.f6.params.toList args.toList ds p := hA0
  rw [Try.params6] at hA hval
  obtain ⟨v0, vs0, d0, ds0, p0, q0, hargs, rfl, rfl, h0, r0⟩ := trodAll_cons hA
  obtain ⟨v1, vs1, d1, ds1, p1, q1, rfl, rfl, rfl, h1, r1⟩ := trodAll_cons r0
  obtain ⟨v2, vs2, d2, ds2, p2, q2, rfl, rfl, rfl, h2, r2⟩ := trodAll_cons r1
  obtain ⟨rfl, rfl, rfl⟩ := trodAll_nil r2
  obtain rfl : args = #[v0, v1, v2] := by cases args; simp_all
  obtain ⟨rfl, rfl⟩ := trodVars_none hV
  have lt0 : ∀ x ∈ p0, x.block < W.heap.size := by obtain ⟨m, hm⟩ := h0; exact DataW.trod_lt m _ _ _ hm
  obtain ⟨u0, l0, s0, e0⟩ := open_agg (t := 35) 8 (ss := [.str, .int .u8, .int .i64]) (by kernel_rfl) (by kernel_rfl) (hval 0 35 v0 rfl rfl) h0
  have lt1 : ∀ x ∈ p1, x.block < W.heap.size := by obtain ⟨m, hm⟩ := h1; exact DataW.trod_lt m _ _ _ hm
  obtain ⟨u1, s1, e1⟩ := open_one (t := 36) 8 (s := .sl [.int .u8, .str, .int .u8]) (by kernel_rfl) (by kernel_rfl) (hval 1 36 v1 rfl rfl) h1
  have lt2 : ∀ x ∈ p2, x.block < W.heap.size := by obtain ⟨m, hm⟩ := h2; exact DataW.trod_lt m _ _ _ hm
  obtain ⟨u2, s2, e2⟩ := open_one (t := 51) 8 (s := .sl [.str]) (by kernel_rfl) (by kernel_rfl) (hval 2 51 v2 rfl rfl) h2
  refine (walk_true (law_sem u0 l0 s0 u1 s1 u2 s2) (rvl3 e0 e1 e2)).mono fun e W' ⟨he, bel⟩ => ?_
  subst he
  exact ⟨_, rfl, _, _, _, [], _, [], hW', trodAll_mk1 (shut_bool Try.underlying4 _), (trodAll_cons_mk (Below.trod laidOut (by kernel_rfl) (of_decide_eq_true (by kernel_rfl)) h0 bel lt0) (trodAll_cons_mk (Below.trod laidOut (by kernel_rfl) (of_decide_eq_true (by kernel_rfl)) h1 bel lt1) (trodAll_cons_mk (Below.trod laidOut (by kernel_rfl) (of_decide_eq_true (by kernel_rfl)) h2 bel lt2) trodAll_mk0))), rfl, bel.frame _, fun h => by cases h⟩
theorem over : Rows.labelApartRow.holds Try.pinned (OpenSpec.ofChange Rows.labelApartSpec) :=
  OpenClaim.holds_of_wide 6 Try.f6 rfl rfl rfl rfl rfl rfl rfl ⟨rfl, rfl, rfl, rfl, rfl⟩ rfl rfl rfl rfl rfl (by kernel_rfl) Try.func6 (by kernel_rfl)
    (of_decide_eq_true (by kernel_rfl)) (by unfold Func.isWrapper; first | (rw [if_pos (by decide +kernel)]; kernel_rfl) | (rw [if_neg (by decide +kernel)]; exact ⟨rfl, rfl⟩))
    (fun os started H enc _ => lifted os started H enc)
theorem proved : Rows.LabelApartSaid := over
end Go.Proofs.Ytanhfplbimefmaa.labelApart
namespace Go.Proofs.Ytanhfplbimefmaa
/-- The row, for the claim. -/
theorem labelApart_holds : Rows.LabelApartSaid := labelApart.proved
#print axioms labelApart_holds
end Go.Proofs.Ytanhfplbimefmaa
