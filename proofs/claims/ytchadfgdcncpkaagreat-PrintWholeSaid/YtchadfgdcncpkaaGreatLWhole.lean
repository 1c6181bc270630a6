/- The law PrintWhole of marqueelaw19 returns true for all sizes and steps; no condition. -/
import Derived.Test.YtchadfgdcncpkaaGreatLK9g
import Derived.Test.YtchadfgdcncpkaaGreatCx13g
import Derived.Test.YtchadfgdcncpkaaGreatRows
import Derived.WalkKit
import Derived.ProofKit
namespace Go.Proofs.YtchadfgdcncpkaaGreat.printWhole
open Go.ChangeShapes Go.WideShapes Go.ChangeAt Go.RowKit Go.Cx
set_option maxRecDepth 100000
theorem own : ownKnob Tryz.prog.godebug = none := by kernel_rfl
theorem laidOut : laidOutB Tryz.prog = true := by kernel_rfl
theorem wf_rng {k : IntKind} {n : Int} (h : (Lit.int k n).wf = true) : k.min ≤ n ∧ n ≤ k.max := by
  simpa [Lit.wf] using h
theorem lt_max {n : Nat} (h : n ≤ maxLen) : n < 9223372036854775808 := Nat.lt_of_le_of_lt h (by decide +kernel)
theorem u8_of {v : V} (h : ShOk (.int .u8) v) : ∃ n : Int, v = .int .u8 n ∧ u8r n := by
  cases h with
  | int _ n hn =>
    have a1 := wf_rng hn
    simp [IntKind.min, IntKind.max, IntKind.signed, IntKind.bits] at a1
    exact ⟨n, rfl, a1.1, by omega⟩
theorem u16_of {v : V} (h : ShOk (.int .u16) v) : ∃ n : Int, v = .int .u16 n := by
  cases h with
  | int _ n hn => exact ⟨n, rfl⟩
theorem i32_of {v : V} (h : ShOk (.int .i32) v) : ∃ n : Int, v = .int .i32 n ∧ -2147483648 ≤ n ∧ n < 2147483648 := by
  cases h with
  | int _ n hn =>
    have a1 := wf_rng hn
    simp [IntKind.min, IntKind.max, IntKind.signed, IntKind.bits] at a1
    exact ⟨n, rfl, a1.1, by omega⟩
theorem bool_of {v : V} (h : ShOk .bool v) : ∃ b : Bool, v = .bool b := by
  cases h with
  | bool b => exact ⟨b, rfl⟩
def stepSh : List CS := [.int .u8, .int .u8, .int .u8, .int .i32, .bool, .int .u16, .int .u8, .int .u8, .int .u8, .int .u8, .int .u8, .int .u8, .int .u8]
theorem step_of {y : List V} (hy : y.length = 13) (hs : ∀ j, j < 13 → ShOk (stepSh.getD j .bool) (y.getD j .undef)) : ∃ s : Sp, y = s.cs ∧ s.ok := by
  match y, hy with
  | [y0, y1, y2, y3, y4, y5, y6, y7, y8, y9, y10, y11, y12], _ =>
    obtain ⟨n0, rfl, h0⟩ := u8_of (hs 0 (by decide))
    obtain ⟨n1, rfl, h1⟩ := u8_of (hs 1 (by decide))
    obtain ⟨n2, rfl, h2⟩ := u8_of (hs 2 (by decide))
    obtain ⟨n3, rfl, h3, h3'⟩ := i32_of (hs 3 (by decide))
    obtain ⟨n4, rfl⟩ := bool_of (hs 4 (by decide))
    obtain ⟨n5, rfl⟩ := u16_of (hs 5 (by decide))
    obtain ⟨n6, rfl, _⟩ := u8_of (hs 6 (by decide))
    obtain ⟨n7, rfl, _⟩ := u8_of (hs 7 (by decide))
    obtain ⟨n8, rfl, _⟩ := u8_of (hs 8 (by decide))
    obtain ⟨n9, rfl, _⟩ := u8_of (hs 9 (by decide))
    obtain ⟨n10, rfl, _⟩ := u8_of (hs 10 (by decide))
    obtain ⟨n11, rfl, _⟩ := u8_of (hs 11 (by decide))
    obtain ⟨n12, rfl, _⟩ := u8_of (hs 12 (by decide))
    exact ⟨⟨n0, n1, n2, n3, n4, ⟨n5, n6, n7, n8, n9, n10, n11, n12⟩⟩, rfl, ⟨h0, h1, h2, h3, h3'⟩⟩
theorem steps_of {v : V} (h : ShOk (.sl stepSh) v) : ∃ l : List Sp, v = .psl 13 (stepsV l) .any ∧ l.length < 9223372036854775808 ∧ ∀ s ∈ l, s.ok := by
  obtain ⟨l, h1, h2, h3⟩ := rows_of (es := stepSh) (f := Sp.cs) (p := Sp.ok) (fun _ hy hs => step_of hy hs) h
  exact ⟨l, h1, lt_max h2, h3⟩
theorem law_sem (w : List V) (hl : w.length = 3) (hw : ∀ j, j < 3 → ShOk ([.int .u8, .int .u8, .int .u8].getD j .bool) (w.getD j .undef)) (v : V) (hv : ShOk (.sl stepSh) v) : Go.Cx.Sem Tryz.prog 5 [.agg w, v] [] fun v _ => v = .bool true := by
  obtain ⟨l, rfl, h1, h2⟩ := steps_of hv
  match w, hl with
  | [y0, y1, y2], _ =>
    obtain ⟨n0, rfl, g0⟩ := u8_of (hw 0 (by decide))
    obtain ⟨n1, rfl, g1⟩ := u8_of (hw 1 (by decide))
    obtain ⟨n2, rfl, _⟩ := u8_of (hw 2 (by decide))
    exact whole_law works19 n0 n1 n2 g0 g1 l h1 h2
theorem lifted (os : Os) (started : os.Started) (H : Type) (enc : TypeId × Value → H) :
    ReturnsInHanded {} Tryz.checked os 5 .any (Rows.printWholeSpec.pre6 enc Tryz.prog Tryz.f5 Rows.printWholeRow.domain false) (Rows.printWholeSpec.post enc Tryz.prog Tryz.f5 false true false false) := by
  refine returnsInHanded_of_change_sized (C := Tryz.checked) own started (by kernel_rfl) Tryz.func5
    (ChangeSpec.witness6 (enc := enc) (C := Tryz.checked) false ⟨#[], #[.agg #[.int .u8 0, .int .u8 0, .int .u8 0], .slice none 0 0], []⟩ 8 (by kernel_rfl) (by kernel_rfl) (by kernel_rfl) (by kernel_rfl)) ?_
  intro W base args ds gs before hval0 hW hcnd hsz0 _
  have hval : ∀ (j : Nat) t v, Tryz.f5.params[j]? = some t → args[j]? = some v → Value.okWide Tryz.prog W .any base t v := hval0
  have hW' := hW
  obtain ⟨p, q, hA0, hV, rfl, hfz, hnd⟩ := hW
  have hA : DataW.TrodAll enc Tryz.prog W 0 (fun _ => true) true Tryz.f5.params.toList args.toList ds p := hA0
  rw [Tryz.params5] at hA hval
  obtain ⟨v0, vs0, d0, ds0, p0, q0, hargs, rfl, rfl, h0, r0⟩ := trodAll_cons hA
  obtain ⟨v1, vs1, d1, ds1, p1, q1, rfl, rfl, rfl, h1, r1⟩ := trodAll_cons r0
  obtain ⟨rfl, rfl, rfl⟩ := trodAll_nil r1
  obtain rfl : args = #[v0, v1] := by cases args; simp_all
  obtain ⟨rfl, rfl⟩ := trodVars_none hV
  have lt0 : ∀ x ∈ p0, x.block < W.heap.size := by obtain ⟨m, hm⟩ := h0; exact DataW.trod_lt m _ _ _ hm
  obtain ⟨u0, l0, s0, e0⟩ := open_agg (t := 22) 8 (ss := [.int .u8, .int .u8, .int .u8]) (by kernel_rfl) (by kernel_rfl) (hval 0 22 v0 rfl rfl) h0
  have lt1 : ∀ x ∈ p1, x.block < W.heap.size := by obtain ⟨m, hm⟩ := h1; exact DataW.trod_lt m _ _ _ hm
  obtain ⟨u1, s1, e1⟩ := open_one (t := 71) 8 (s := .sl stepSh) (by kernel_rfl) (by kernel_rfl) (hval 1 71 v1 rfl rfl) h1
  refine (walk_true (by kernel_rfl) (law_sem u0 l0 s0 u1 s1) (rvl2 e0 e1) (fun _ _ h => by cases h)).mono fun e W' ⟨he, bel⟩ => ?_
  subst he
  exact ⟨_, rfl, _, _, _, [], _, [], hW', trodAll_mk1 (shut_bool Tryz.underlying4 _), (trodAll_cons_mk (Below.trod laidOut (by kernel_rfl) (of_decide_eq_true (by kernel_rfl)) h0 bel lt0) (trodAll_cons_mk (Below.trod laidOut (by kernel_rfl) (of_decide_eq_true (by kernel_rfl)) h1 bel lt1) trodAll_mk0)), rfl, bel.frame _, fun h => by cases h⟩
theorem over : Rows.printWholeRow.holds Tryz.pinned (OpenSpec.ofChange Rows.printWholeSpec) :=
  OpenClaim.holds_of_wide 5 Tryz.f5 rfl rfl rfl rfl rfl rfl rfl ⟨rfl, rfl, rfl, rfl, rfl⟩ rfl rfl rfl rfl rfl (by kernel_rfl) Tryz.func5 (by kernel_rfl)
    (of_decide_eq_true (by kernel_rfl)) (by unfold Func.isWrapper; first | (rw [if_pos (by decide +kernel)]; kernel_rfl) | (rw [if_neg (by decide +kernel)]; exact ⟨rfl, rfl⟩))
    (fun os started H enc _ => lifted os started H enc)
theorem proved : Rows.PrintWholeSaid := over
end Go.Proofs.YtchadfgdcncpkaaGreat.printWhole
namespace Go.Proofs.YtchadfgdcncpkaaGreat
/-- The row, for the claim. -/
theorem printWhole_holds : Rows.PrintWholeSaid := printWhole.proved
#print axioms printWhole_holds
end Go.Proofs.YtchadfgdcncpkaaGreat
