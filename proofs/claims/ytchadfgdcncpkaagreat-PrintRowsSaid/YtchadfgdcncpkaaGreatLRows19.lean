/- The law PrintRows of marqueelaw19 returns true for all sizes, bytes and steps; no condition. -/
import Derived.Test.YtchadfgdcncpkaaGreatLN4
import Derived.Test.YtchadfgdcncpkaaGreatCx13g
import Derived.Test.YtchadfgdcncpkaaGreatRows
import Derived.WalkKit
import Derived.ProofKit
namespace Go.Proofs.YtchadfgdcncpkaaGreat.printRows
open Go.ChangeShapes Go.WideShapes Go.ChangeAt Go.RowKit Go.Cx
set_option maxRecDepth 100000
theorem own : ownKnob Tryz.prog.godebug = none := by kernel_rfl
theorem laidOut : laidOutB Tryz.prog = true := by kernel_rfl
theorem wf_rng {k : IntKind} {n : Int} (h : (Lit.int k n).wf = true) : k.min ≤ n ∧ n ≤ k.max := by
  simpa [Lit.wf] using h
theorem lt_max {n : Nat} (h : n ≤ maxLen) : n < 9223372036854775808 := Nat.lt_of_le_of_lt h (by decide +kernel)
theorem u8_of {v : V} (h : ShOk (.int .u8) v) : ∃ n : Int, v = .int .u8 n ∧ u8r n := by
  cases h with
  | int _ n hn =>
    have a1 := wf_rng hn
    simp [IntKind.min, IntKind.max, IntKind.signed, IntKind.bits] at a1
    exact ⟨n, rfl, a1.1, by omega⟩
theorem u16_of {v : V} (h : ShOk (.int .u16) v) : ∃ n : Int, v = .int .u16 n := by
  cases h with
  | int _ n hn => exact ⟨n, rfl⟩
theorem i32_of {v : V} (h : ShOk (.int .i32) v) : ∃ n : Int, v = .int .i32 n ∧ -2147483648 ≤ n ∧ n < 2147483648 := by
  cases h with
  | int _ n hn =>
    have a1 := wf_rng hn
    simp [IntKind.min, IntKind.max, IntKind.signed, IntKind.bits] at a1
    exact ⟨n, rfl, a1.1, by omega⟩
theorem bool_of {v : V} (h : ShOk .bool v) : ∃ b : Bool, v = .bool b := by
  cases h with
  | bool b => exact ⟨b, rfl⟩
def stepSh : List CS := [.int .u8, .int .u8, .int .u8, .int .i32, .bool, .int .u16, .int .u8, .int .u8, .int .u8, .int .u8, .int .u8, .int .u8, .int .u8]
theorem step_of {y : List V} (hy : y.length = 13) (hs : ∀ j, j < 13 → ShOk (stepSh.getD j .bool) (y.getD j .undef)) : ∃ s : Sp, y = s.cs ∧ s.ok := by
  match y, hy with
  | [y0, y1, y2, y3, y4, y5, y6, y7, y8, y9, y10, y11, y12], _ =>
    obtain ⟨n0, rfl, h0⟩ := u8_of (hs 0 (by decide))
    obtain ⟨n1, rfl, h1⟩ := u8_of (hs 1 (by decide))
    obtain ⟨n2, rfl, h2⟩ := u8_of (hs 2 (by decide))
    obtain ⟨n3, rfl, h3, h3'⟩ := i32_of (hs 3 (by decide))
    obtain ⟨n4, rfl⟩ := bool_of (hs 4 (by decide))
    obtain ⟨n5, rfl⟩ := u16_of (hs 5 (by decide))
    obtain ⟨n6, rfl, _⟩ := u8_of (hs 6 (by decide))
    obtain ⟨n7, rfl, _⟩ := u8_of (hs 7 (by decide))
    obtain ⟨n8, rfl, _⟩ := u8_of (hs 8 (by decide))
    obtain ⟨n9, rfl, _⟩ := u8_of (hs 9 (by decide))
    obtain ⟨n10, rfl, _⟩ := u8_of (hs 10 (by decide))
    obtain ⟨n11, rfl, _⟩ := u8_of (hs 11 (by decide))
    obtain ⟨n12, rfl, _⟩ := u8_of (hs 12 (by decide))
    exact ⟨⟨n0, n1, n2, n3, n4, ⟨n5, n6, n7, n8, n9, n10, n11, n12⟩⟩, rfl, ⟨h0, h1, h2, h3, h3'⟩⟩
theorem bytes_of' {v : V} (h : ShOk (.sl [.int .u8]) v) : ∃ l : List Int, v = .psl 1 (bytV l) .any ∧ l.length < 9223372036854775808 ∧ ∀ x ∈ l, u8r x := by
  obtain ⟨l, h1, h2, h3⟩ := rows_of (es := [.int .u8]) (f := fun x => [V.int .u8 x]) (p := u8r) (fun y hy hs => by
    match y, hy with
    | [y0], _ =>
      obtain ⟨n0, rfl, h0⟩ := u8_of (hs 0 (by decide))
      exact ⟨n0, rfl, h0⟩) h
  exact ⟨l, h1, lt_max h2, h3⟩
theorem law_sem (w : List V) (hl : w.length = 3) (hw : ∀ j, j < 3 → ShOk ([.int .u8, .int .u8, .int .u8].getD j .bool) (w.getD j .undef)) (v : V) (hv : ShOk (.sl [.int .u8]) v) (w2 : List V) (hl2 : w2.length = 13) (hw2 : ∀ j, j < 13 → ShOk (stepSh.getD j .bool) (w2.getD j .undef)) : Go.Cx.Sem Tryz.prog 3 [.agg w, v, .agg w2] [] fun v _ => v = .bool true := by
  obtain ⟨l, rfl, h1, h2⟩ := bytes_of' hv
  obtain ⟨s, rfl, hs⟩ := step_of hl2 hw2
  match w, hl with
  | [y0, y1, y2], _ =>
    obtain ⟨n0, rfl, g0⟩ := u8_of (hw 0 (by decide))
    obtain ⟨n1, rfl, g1⟩ := u8_of (hw 1 (by decide))
    obtain ⟨n2, rfl, _⟩ := u8_of (hw 2 (by decide))
    exact rows_law works19 n0 n1 n2 g0 g1 l h1 h2 s hs
theorem lifted (os : Os) (started : os.Started) (H : Type) (enc : TypeId × Value → H) :
    ReturnsInHanded {} Tryz.checked os 3 .any (Rows.printRowsSpec.pre6 enc Tryz.prog Tryz.f3 Rows.printRowsRow.domain false) (Rows.printRowsSpec.post enc Tryz.prog Tryz.f3 false true false false) := by
  refine returnsInHanded_of_change_sized (C := Tryz.checked) own started (by kernel_rfl) Tryz.func3
    (ChangeSpec.witness6 (enc := enc) (C := Tryz.checked) false ⟨#[], #[.agg #[.int .u8 0, .int .u8 0, .int .u8 0], .slice none 0 0, .agg #[.int .u8 0, .int .u8 0, .int .u8 0, .int .i32 0, .bool false, .int .u16 0, .int .u8 0, .int .u8 0, .int .u8 0, .int .u8 0, .int .u8 0, .int .u8 0, .int .u8 0]], []⟩ 8 (by kernel_rfl) (by kernel_rfl) (by kernel_rfl) (by kernel_rfl)) ?_
  intro W base args ds gs before hval0 hW hcnd hsz0 _
  have hval : ∀ (j : Nat) t v, Tryz.f3.params[j]? = some t → args[j]? = some v → Value.okWide Tryz.prog W .any base t v := hval0
  have hW' := hW
  obtain ⟨p, q, hA0, hV, rfl, hfz, hnd⟩ := hW
  have hA : DataW.TrodAll enc Tryz.prog W 0 (fun _ => true) true Tryz.f3.params.toList args.toList ds p := hA0
  rw [Tryz.params3] at hA hval
  obtain ⟨v0, vs0, d0, ds0, p0, q0, hargs, rfl, rfl, h0, r0⟩ := trodAll_cons hA
  obtain ⟨v1, vs1, d1, ds1, p1, q1, rfl, rfl, rfl, h1, r1⟩ := trodAll_cons r0
  obtain ⟨v2, vs2, d2, ds2, p2, q2, rfl, rfl, rfl, h2, r2⟩ := trodAll_cons r1
  obtain ⟨rfl, rfl, rfl⟩ := trodAll_nil r2
  obtain rfl : args = #[v0, v1, v2] := by cases args; simp_all
  obtain ⟨rfl, rfl⟩ := trodVars_none hV
  have lt0 : ∀ x ∈ p0, x.block < W.heap.size := by obtain ⟨m, hm⟩ := h0; exact DataW.trod_lt m _ _ _ hm
  obtain ⟨u0, l0, s0, e0⟩ := open_agg (t := 22) 8 (ss := [.int .u8, .int .u8, .int .u8]) (by kernel_rfl) (by kernel_rfl) (hval 0 22 v0 rfl rfl) h0
  have lt1 : ∀ x ∈ p1, x.block < W.heap.size := by obtain ⟨m, hm⟩ := h1; exact DataW.trod_lt m _ _ _ hm
  obtain ⟨u1, s1, e1⟩ := open_one (t := 23) 8 (s := .sl [.int .u8]) (by kernel_rfl) (by kernel_rfl) (hval 1 23 v1 rfl rfl) h1
  have lt2 : ∀ x ∈ p2, x.block < W.heap.size := by obtain ⟨m, hm⟩ := h2; exact DataW.trod_lt m _ _ _ hm
  obtain ⟨u2, l2, s2, e2⟩ := open_agg (t := 28) 8 (ss := stepSh) (by kernel_rfl) (by kernel_rfl) (hval 2 28 v2 rfl rfl) h2
  refine (walk_true (by kernel_rfl) (law_sem u0 l0 s0 u1 s1 u2 l2 s2) (rvl3 e0 e1 e2) (fun _ _ h => by cases h)).mono fun e W' ⟨he, bel⟩ => ?_
  subst he
  exact ⟨_, rfl, _, _, _, [], _, [], hW', trodAll_mk1 (shut_bool Tryz.underlying4 _), (trodAll_cons_mk (Below.trod laidOut (by kernel_rfl) (of_decide_eq_true (by kernel_rfl)) h0 bel lt0) (trodAll_cons_mk (Below.trod laidOut (by kernel_rfl) (of_decide_eq_true (by kernel_rfl)) h1 bel lt1) (trodAll_cons_mk (Below.trod laidOut (by kernel_rfl) (of_decide_eq_true (by kernel_rfl)) h2 bel lt2) trodAll_mk0))), rfl, bel.frame _, fun h => by cases h⟩
theorem over : Rows.printRowsRow.holds Tryz.pinned (OpenSpec.ofChange Rows.printRowsSpec) :=
  OpenClaim.holds_of_wide 3 Tryz.f3 rfl rfl rfl rfl rfl rfl rfl ⟨rfl, rfl, rfl, rfl, rfl⟩ rfl rfl rfl rfl rfl (by kernel_rfl) Tryz.func3 (by kernel_rfl)
    (of_decide_eq_true (by kernel_rfl)) (by unfold Func.isWrapper; first | (rw [if_pos (by decide +kernel)]; kernel_rfl) | (rw [if_neg (by decide +kernel)]; exact ⟨rfl, rfl⟩))
    (fun os started H enc _ => lifted os started H enc)
theorem proved : Rows.PrintRowsSaid := over
end Go.Proofs.YtchadfgdcncpkaaGreat.printRows
namespace Go.Proofs.YtchadfgdcncpkaaGreat
/-- The row, for the claim. -/
theorem printRows_holds : Rows.PrintRowsSaid := printRows.proved
#print axioms printRows_holds
end Go.Proofs.YtchadfgdcncpkaaGreat
