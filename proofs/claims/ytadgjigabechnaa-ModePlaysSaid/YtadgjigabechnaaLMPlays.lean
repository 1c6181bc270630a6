/- The law ModePlays of marqueelaw15 returns true for all acts and modes; no condition. -/
import Derived.Test.YtadgjigabechnaaLM21g
import Derived.Test.YtadgjigabechnaaCx13g
import Derived.Test.YtadgjigabechnaaRows
import Derived.WalkKit
import Derived.ProofKit
namespace Go.Proofs.Ytadgjigabechnaa.modePlays
open Go.ChangeShapes Go.WideShapes Go.ChangeAt Go.RowKit Go.Cx
set_option maxRecDepth 100000
theorem own : ownKnob Try.prog.godebug = none := by kernel_rfl
theorem laidOut : laidOutB Try.prog = true := by kernel_rfl
theorem wf_rng {k : IntKind} {n : Int} (h : (Lit.int k n).wf = true) : k.min ≤ n ∧ n ≤ k.max := by
  simpa [Lit.wf] using h
theorem lt_max {n : Nat} (h : n ≤ maxLen) : n < 9223372036854775808 := Nat.lt_of_le_of_lt h (by decide +kernel)
theorem mode_of {y : List V} (hy : y.length = 2) (hs : ∀ j, j < 2 → ShOk ([.bool, .int .i64].getD j .bool) (y.getD j .undef)) : ∃ a : Md, y = mdC a ∧ (-9223372036854775808 ≤ a.n ∧ a.n < 9223372036854775808) := by
  match y, hy with
  | [a, b], _ =>
    have h0 := hs 0 (by simp)
    have h1 := hs 1 (by simp)
    simp at h0 h1
    match a, b, h0, h1 with
    | _, _, .bool p, .int _ n hn =>
      have a1 := wf_rng hn
      simp [IntKind.min, IntKind.max, IntKind.signed, IntKind.bits] at a1
      exact ⟨⟨p, n⟩, rfl, a1.1, by show n < 9223372036854775808; omega⟩
theorem modes_of {v : V} (h : ShOk (.sl [.bool, .int .i64]) v) : ∃ xs : List Md, v = .psl 2 (mdsV xs) .any ∧ xs.length ≤ maxLen :=
  have ⟨xs, h1, h2, _⟩ := rows_of (es := [.bool, .int .i64]) (f := mdC) (p := fun a => -9223372036854775808 ≤ a.n ∧ a.n < 9223372036854775808) (fun _ hy hs => mode_of hy hs) h
  ⟨xs, h1, h2⟩
theorem act_of {y : List V} (hy : y.length = 2) (hs : ∀ j, j < 2 → ShOk ([.int .u8, .sl [.bool, .int .i64]].getD j .bool) (y.getD j .undef)) : ∃ a : Ac, y = a.cs ∧ a.ok := by
  match y, hy with
  | [a, b], _ =>
    have h0 := hs 0 (by simp)
    have h1 := hs 1 (by simp)
    simp at h0 h1
    obtain ⟨xs, rfl, hl⟩ := modes_of h1
    match a, h0 with
    | _, .int _ n hn =>
      have a1 := wf_rng hn
      simp [IntKind.min, IntKind.max, IntKind.signed, IntKind.bits] at a1
      exact ⟨⟨n, xs⟩, rfl, ⟨a1.1, by show n < 256; omega, lt_max hl⟩⟩
theorem acts_of {v : V} (h : ShOk (.sl [.int .u8, .sl [.bool, .int .i64]]) v) : ∃ xs : List Ac, v = .psl 2 (actsV xs) .any ∧ xs.length < 9223372036854775808 ∧ ∀ x ∈ xs, x.ok := by
  obtain ⟨xs, h1, h2, h3⟩ := rows_of (es := [.int .u8, .sl [.bool, .int .i64]]) (f := Ac.cs) (p := Ac.ok) (fun _ hy hs => act_of hy hs) h
  exact ⟨xs, h1, lt_max h2, h3⟩
theorem law_sem (v : V) (hv : ShOk (.sl [.int .u8, .sl [.bool, .int .i64]]) v) (w : List V) (hl : w.length = 2) (hw : ∀ j, j < 2 → ShOk ([.bool, .int .i64].getD j .bool) (w.getD j .undef)) : Go.Cx.Sem Try.prog 5 [v, .agg w] [] fun v _ => v = .bool true := by
  obtain ⟨xs, rfl, _, hx⟩ := acts_of hv
  obtain ⟨a, rfl, _⟩ := mode_of hl hw
  exact plays_law xs hx a
theorem lifted (os : Os) (started : os.Started) (H : Type) (enc : TypeId × Value → H) :
    ReturnsInHanded {} Try.checked os 5 .any (Rows.modePlaysSpec.pre6 enc Try.prog Try.f5 Rows.modePlaysRow.domain false) (Rows.modePlaysSpec.post enc Try.prog Try.f5 false true false false) := by
  refine returnsInHanded_of_change_sized (C := Try.checked) own started (by kernel_rfl) Try.func5
    (ChangeSpec.witness6 (enc := enc) (C := Try.checked) false ⟨#[], #[.slice none 0 0, .agg #[.bool false, .int .i64 0]], []⟩ 8 (by kernel_rfl) (by kernel_rfl) (by kernel_rfl) (by kernel_rfl)) ?_
  intro W base args ds gs before hval0 hW hcnd hsz0 _
  have hval : ∀ (j : Nat) t v, Try.f5.params[j]? = some t → args[j]? = some v → Value.okWide Try.prog W .any base t v := hval0
  have hW' := hW
  obtain ⟨p, q, hA0, hV, rfl, hfz, hnd⟩ := hW
  have hA : DataW.TrodAll enc Try.prog W 0 (fun _ => true) true Try.f5.params.toList args.toList ds p := hA0
  rw [Try.params5] at hA hval
  obtain ⟨v0, vs0, d0, ds0, p0, q0, hargs, rfl, rfl, h0, r0⟩ := trodAll_cons hA
  obtain ⟨v1, vs1, d1, ds1, p1, q1, rfl, rfl, rfl, h1, r1⟩ := trodAll_cons r0
  obtain ⟨rfl, rfl, rfl⟩ := trodAll_nil r1
  obtain rfl : args = #[v0, v1] := by cases args; simp_all
  obtain ⟨rfl, rfl⟩ := trodVars_none hV
  have lt0 : ∀ x ∈ p0, x.block < W.heap.size := by obtain ⟨m, hm⟩ := h0; exact DataW.trod_lt m _ _ _ hm
  obtain ⟨u0, s0, e0⟩ := open_one (t := 22) 8 (s := .sl [.int .u8, .sl [.bool, .int .i64]]) (by kernel_rfl) (by kernel_rfl) (hval 0 22 v0 rfl rfl) h0
  have lt1 : ∀ x ∈ p1, x.block < W.heap.size := by obtain ⟨m, hm⟩ := h1; exact DataW.trod_lt m _ _ _ hm
  obtain ⟨u1, l1, s1, e1⟩ := open_agg (t := 24) 8 (ss := [.bool, .int .i64]) (by kernel_rfl) (by kernel_rfl) (hval 1 24 v1 rfl rfl) h1
  refine (walk_true (by kernel_rfl) (law_sem u0 s0 u1 l1 s1) (rvl2 e0 e1) (fun _ _ h => by cases h)).mono fun e W' ⟨he, bel⟩ => ?_
  subst he
  exact ⟨_, rfl, _, _, _, [], _, [], hW', trodAll_mk1 (shut_bool Try.underlying4 _), (trodAll_cons_mk (Below.trod laidOut (by kernel_rfl) (of_decide_eq_true (by kernel_rfl)) h0 bel lt0) (trodAll_cons_mk (Below.trod laidOut (by kernel_rfl) (of_decide_eq_true (by kernel_rfl)) h1 bel lt1) trodAll_mk0)), rfl, bel.frame _, fun h => by cases h⟩
theorem over : Rows.modePlaysRow.holds Try.pinned (OpenSpec.ofChange Rows.modePlaysSpec) :=
  OpenClaim.holds_of_wide 5 Try.f5 rfl rfl rfl rfl rfl rfl rfl ⟨rfl, rfl, rfl, rfl, rfl⟩ rfl rfl rfl rfl rfl (by kernel_rfl) Try.func5 (by kernel_rfl)
    (of_decide_eq_true (by kernel_rfl)) (by unfold Func.isWrapper; first | (rw [if_pos (by decide +kernel)]; kernel_rfl) | (rw [if_neg (by decide +kernel)]; exact ⟨rfl, rfl⟩))
    (fun os started H enc _ => lifted os started H enc)
theorem proved : Rows.ModePlaysSaid := over
end Go.Proofs.Ytadgjigabechnaa.modePlays
namespace Go.Proofs.Ytadgjigabechnaa
/-- The row, for the claim. -/
theorem modePlays_holds : Rows.ModePlaysSaid := modePlays.proved
#print axioms modePlays_holds
end Go.Proofs.Ytadgjigabechnaa
