/- The law CursorMoves of marqueelaw16 returns true for all sizes, acts and numbers; no condition. -/
import Derived.Test.YtphpngpfllealaaLX16
import Derived.Test.YtphpngpfllealaaCv14
import Derived.Test.YtphpngpfllealaaRows
import Derived.WalkKit
import Derived.ProofKit
namespace Go.Proofs.Ytphpngpfllealaa.cursorMoves
open Go.ChangeShapes Go.WideShapes Go.ChangeAt Go.RowKit Go.Cv
set_option maxRecDepth 100000
theorem own : ownKnob Try.prog.godebug = none := by kernel_rfl
theorem laidOut : laidOutB Try.prog = true := by kernel_rfl
theorem wf_rng {k : IntKind} {n : Int} (h : (Lit.int k n).wf = true) : k.min ≤ n ∧ n ≤ k.max := by
  simpa [Lit.wf] using h
theorem acts_of {v : V} (h : ShOk (.sl [.int .u8, .int .u8, .int .u8, .int .i64]) v) : ∃ xs : List Ac, v = .psl 4 (xs.map Ac.l) .any ∧ xs.length ≤ 9223372036854775807 ∧ ∀ x ∈ xs, x.ok :=
  rows_of (f := Ac.l) (p := Ac.ok) (fun y hy hs => by
    match y, hy with
    | [a, b, c, d], _ =>
      have h0 := hs 0 (by simp)
      have h1 := hs 1 (by simp)
      have h2 := hs 2 (by simp)
      have h3 := hs 3 (by simp)
      simp at h0 h1 h2 h3
      match a, b, c, d, h0, h1, h2, h3 with
      | _, _, _, _, .int _ n hn, .int _ k hk, .int _ m hm, .int _ q _ =>
        have a1 := wf_rng hn
        have a2 := wf_rng hk
        have a3 := wf_rng hm
        simp [IntKind.min, IntKind.max, IntKind.signed, IntKind.bits] at a1 a2 a3
        exact ⟨⟨n, k, m, q⟩, rfl, a1.1, a1.2, a2.1, a2.2, a3.1, a3.2⟩) h
theorem law_sem (u : List V) (hl : u.length = 2) (hu : ∀ j, j < 2 → ShOk ([.int .u16, .int .u16].getD j .bool) (u.getD j .undef)) (w : V) (hw : ShOk (.sl [.int .u8, .int .u8, .int .u8, .int .i64]) w) (t : List V) (htl : t.length = 2) (ht : ∀ j, j < 2 → ShOk ([.int .u8, .int .u8].getD j .bool) (t.getD j .undef)) : Go.Cv.Sem Try.prog 6 [.agg u, w, .agg t] [] fun v _ => v = .bool true := by
  obtain ⟨xs, rfl, _, hx⟩ := acts_of hw
  match u, hl, t, htl with
  | [a, b], _, [c, d], _ =>
    have h0 := hu 0 (by simp)
    have h1 := hu 1 (by simp)
    have h2 := ht 0 (by simp)
    have h3 := ht 1 (by simp)
    simp at h0 h1 h2 h3
    match a, b, c, d, h0, h1, h2, h3 with
    | _, _, _, _, .int _ p hp, .int _ q hq, .int _ c' hc, .int _ d' hd =>
      have a1 := wf_rng hp
      have a2 := wf_rng hq
      have a3 := wf_rng hc
      have a4 := wf_rng hd
      simp [IntKind.min, IntKind.max, IntKind.signed, IntKind.bits] at a1 a2 a3 a4
      exact moves_sem p q a1 a2 c' d' a3 a4 xs hx
theorem lifted (os : Os) (started : os.Started) (H : Type) (enc : TypeId × Value → H) :
    ReturnsInHanded {} Try.checked os 6 .any (Rows.cursorMovesSpec.pre6 enc Try.prog Try.f6 Rows.cursorMovesRow.domain false) (Rows.cursorMovesSpec.post enc Try.prog Try.f6 false true false false) := by
  refine returnsInHanded_of_change_sized (C := Try.checked) own started (by kernel_rfl) Try.func6
    (ChangeSpec.witness6 (enc := enc) (C := Try.checked) false ⟨#[], #[.agg #[.int .u16 0, .int .u16 0], .slice none 0 0, .agg #[.int .u8 0, .int .u8 0]], []⟩ 8 (by kernel_rfl) (by kernel_rfl) (by kernel_rfl) (by kernel_rfl)) ?_
  intro W base args ds gs before hval0 hW hcnd hsz0 _
  have hval : ∀ (j : Nat) t v, Try.f6.params[j]? = some t → args[j]? = some v → Value.okWide Try.prog W .any base t v := hval0
  have hW' := hW
  obtain ⟨p, q, hA0, hV, rfl, hfz, hnd⟩ := hW
  have hA : DataW.TrodAll enc Try.prog W 0 (fun _ => true) true Try.f6.params.toList args.toList ds p := hA0
  rw [Try.params6] at hA hval
  obtain ⟨v0, vs0, d0, ds0, p0, q0, hargs, rfl, rfl, h0, r0⟩ := trodAll_cons hA
  obtain ⟨v1, vs1, d1, ds1, p1, q1, rfl, rfl, rfl, h1, r1⟩ := trodAll_cons r0
  obtain ⟨v2, vs2, d2, ds2, p2, q2, rfl, rfl, rfl, h2, r2⟩ := trodAll_cons r1
  obtain ⟨rfl, rfl, rfl⟩ := trodAll_nil r2
  obtain rfl : args = #[v0, v1, v2] := by cases args; simp_all
  obtain ⟨rfl, rfl⟩ := trodVars_none hV
  have lt0 : ∀ x ∈ p0, x.block < W.heap.size := by obtain ⟨m, hm⟩ := h0; exact DataW.trod_lt m _ _ _ hm
  obtain ⟨u0, l0, s0, e0⟩ := open_agg (t := 58) 8 (ss := [.int .u16, .int .u16]) (by kernel_rfl) (by kernel_rfl) (hval 0 58 v0 rfl rfl) h0
  have lt1 : ∀ x ∈ p1, x.block < W.heap.size := by obtain ⟨m, hm⟩ := h1; exact DataW.trod_lt m _ _ _ hm
  obtain ⟨u1, s1, e1⟩ := open_one (t := 24) 8 (s := .sl [.int .u8, .int .u8, .int .u8, .int .i64]) (by kernel_rfl) (by kernel_rfl) (hval 1 24 v1 rfl rfl) h1
  have lt2 : ∀ x ∈ p2, x.block < W.heap.size := by obtain ⟨m, hm⟩ := h2; exact DataW.trod_lt m _ _ _ hm
  obtain ⟨u2, l2, s2, e2⟩ := open_agg (t := 62) 8 (ss := [.int .u8, .int .u8]) (by kernel_rfl) (by kernel_rfl) (hval 2 62 v2 rfl rfl) h2
  refine (walk_true (law_sem u0 l0 s0 u1 s1 u2 l2 s2) (rvl3 e0 e1 e2)).mono fun e W' ⟨he, bel⟩ => ?_
  subst he
  exact ⟨_, rfl, _, _, _, [], _, [], hW', trodAll_mk1 (shut_bool Try.underlying4 _), (trodAll_cons_mk (Below.trod laidOut (by kernel_rfl) (of_decide_eq_true (by kernel_rfl)) h0 bel lt0) (trodAll_cons_mk (Below.trod laidOut (by kernel_rfl) (of_decide_eq_true (by kernel_rfl)) h1 bel lt1) (trodAll_cons_mk (Below.trod laidOut (by kernel_rfl) (of_decide_eq_true (by kernel_rfl)) h2 bel lt2) trodAll_mk0))), rfl, bel.frame _, fun h => by cases h⟩
theorem over : Rows.cursorMovesRow.holds Try.pinned (OpenSpec.ofChange Rows.cursorMovesSpec) :=
  OpenClaim.holds_of_wide 6 Try.f6 rfl rfl rfl rfl rfl rfl rfl ⟨rfl, rfl, rfl, rfl, rfl⟩ rfl rfl rfl rfl rfl (by kernel_rfl) Try.func6 (by kernel_rfl)
    (of_decide_eq_true (by kernel_rfl)) (by unfold Func.isWrapper; first | (rw [if_pos (by decide +kernel)]; kernel_rfl) | (rw [if_neg (by decide +kernel)]; exact ⟨rfl, rfl⟩))
    (fun os started H enc _ => lifted os started H enc)
theorem proved : Rows.CursorMovesSaid := over
end Go.Proofs.Ytphpngpfllealaa.cursorMoves
namespace Go.Proofs.Ytphpngpfllealaa
/-- The row, for the claim. -/
theorem cursorMoves_holds : Rows.CursorMovesSaid := cursorMoves.proved
#print axioms cursorMoves_holds
end Go.Proofs.Ytphpngpfllealaa
