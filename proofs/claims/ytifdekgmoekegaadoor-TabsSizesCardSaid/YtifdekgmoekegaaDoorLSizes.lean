/- The law TabsSizes of marqueelaw14 returns true for all sizes and acts; no condition. -/
import Derived.Test.YtifdekgmoekegaaDoorLR1
namespace Go.Proofs.YtifdekgmoekegaaDoor.tabsSizes
open Go.ChangeShapes Go.WideShapes Go.ChangeAt Go.RowKit Go.Cx rowKit
set_option maxRecDepth 100000
theorem law_sem (u : List V) (hl : u.length = 3) (hu : ∀ j, j < 3 → ShOk ([.int .u16, .int .u16, .int .u16].getD j .bool) (u.getD j .undef)) (w : V) (hw : ShOk (.sl csAct) w) : Go.Cx.Sem Tryd.prog 6 [.agg u, w] [] fun v _ => v = .bool true := by
  obtain ⟨xs, rfl, hlen, hx⟩ := acts_of hw
  match u, hl with
  | [a, b, c], _ =>
    have h0 := hu 0 (by simp)
    have h1 := hu 1 (by simp)
    have h2 := hu 2 (by simp)
    simp at h0 h1 h2
    match a, b, c, h0, h1, h2 with
    | _, _, _, .int _ p hp, .int _ q hq, .int _ r hr =>
      have a1 := wf_rng hp
      have a2 := wf_rng hq
      have a3 := wf_rng hr
      simp [IntKind.min, IntKind.max, IntKind.signed, IntKind.bits] at a1 a2 a3
      exact sizes_sem (fun i => match i with | 0 => p | 1 => q | 2 => r | _ => 0) (fun i => by
        match i with
        | 0 => exact ⟨a1.1, by show p < 65536; omega⟩
        | 1 => exact ⟨a2.1, by show q < 65536; omega⟩
        | 2 => exact ⟨a3.1, by show r < 65536; omega⟩
        | n + 3 => exact ⟨Int.le_refl _, by show (0 : Int) < 65536; omega⟩) xs hx hlen
theorem contract (H : Type) (enc : TypeId × Value → H) (W : World) (base : Nat) (args : Array Value) (ds gs : List (DataW H)) (before : List MemPlace)
    (hval : ∀ (j : Nat) t v, Tryd.f6.params[j]? = some t → args[j]? = some v → Value.okWide Tryd.prog W .any base t v)
    (hW : DataW.Whole enc Tryd.prog Tryd.f6.params.toList Rows.tabsSizesSpec.vars false W args.toList ds gs before) (hL : laidMetH Tryd.prog Rows.tabsSizesRow.laid W) :
    Calls Tryd.prog 6 args W fun e W' => ∃ v, e = .returned v ∧ Rows.tabsSizesSpec.post enc Tryd.prog Tryd.f6 false true false false W args v W' := by
  have hW' := hW
  obtain ⟨p, q, hA0, hV, rfl, hfz, hnd⟩ := hW
  have hA : DataW.TrodAll enc Tryd.prog W 0 (fun _ => true) true Tryd.f6.params.toList args.toList ds p := hA0
  rw [Tryd.params6] at hA hval
  obtain ⟨v0, vs0, d0, ds0, p0, q0, hargs, rfl, rfl, h0, r0⟩ := trodAll_cons hA
  obtain ⟨v1, vs1, d1, ds1, p1, q1, rfl, rfl, rfl, h1, r1⟩ := trodAll_cons r0
  obtain ⟨rfl, rfl, rfl⟩ := trodAll_nil r1
  obtain rfl : args = #[v0, v1] := by cases args; simp_all
  obtain ⟨rfl, rfl⟩ := trodVars_none hV
  have lt0 : ∀ x ∈ p0, x.block < W.heap.size := by obtain ⟨m, hm⟩ := h0; exact DataW.trod_lt m _ _ _ hm
  obtain ⟨u0, l0, s0, e0⟩ := open_agg (t := 49) 8 (ss := [.int .u16, .int .u16, .int .u16]) (by kernel_rfl) (by kernel_rfl) (hval 0 49 v0 rfl rfl) h0
  have lt1 : ∀ x ∈ p1, x.block < W.heap.size := by obtain ⟨m, hm⟩ := h1; exact DataW.trod_lt m _ _ _ hm
  obtain ⟨u1, s1, e1⟩ := open_one (t := 23) 8 (s := .sl csAct) (by kernel_rfl) (by kernel_rfl) (hval 1 23 v1 rfl rfl) h1
  refine (walk_true (by kernel_rfl) (law_sem u0 l0 s0 u1 s1) (rvl2 e0 e1) (globW hL)).mono fun e W' ⟨he, bel⟩ => ?_
  subst he
  exact ⟨_, rfl, _, _, _, [], _, [], hW', trodAll_mk1 (shut_bool Tryd.underlying4 _), (trodAll_cons_mk (Below.trod laidOut (by kernel_rfl) (of_decide_eq_true (by kernel_rfl)) h0 bel lt0) (trodAll_cons_mk (Below.trod laidOut (by kernel_rfl) (of_decide_eq_true (by kernel_rfl)) h1 bel lt1) trodAll_mk0)), rfl, bel.frame _, fun h => by cases h⟩
theorem laid_met (os : Os) : laidMet Tryd.prog Rows.tabsSizesRow.laid ((laidWorld os).forCall (fun _ _ => 0) ⟨#[], #[.agg #[.int .u16 0, .int .u16 0, .int .u16 0], .slice none 0 0], []⟩).memory :=
  laidMet_of_run' 8 (by kernel_rfl) (by kernel_rfl)
theorem reads (os : Os) {H : Type} (enc : TypeId × Value → H) : ∃ places, DataW.whole enc Tryd.prog ((laidWorld os).forCall (fun _ _ => 0) ⟨#[], #[.agg #[.int .u16 0, .int .u16 0, .int .u16 0], .slice none 0 0], []⟩).memory Tryd.f6.params.toList Rows.tabsSizesSpec.vars false #[Value.agg #[.int .u16 0, .int .u16 0, .int .u16 0], .slice none 0 0].toList 8 = some ([.agg [.lit (.int .u16 0), .lit (.int .u16 0), .lit (.int .u16 0)], .nil], [], places) :=
  ⟨[], by kernel_rfl⟩
theorem lifted (os : Os) (started : os.Started) (H : Type) (enc : TypeId × Value → H) (F : Stop.Interp) :
    ReturnsInHanded {} Tryd.checked os 6 .any ((OpenSpec.ofChange Rows.tabsSizesSpec).preRow enc Tryd.prog Tryd.f6 Rows.tabsSizesRow.domain false Rows.tabsSizesRow.laid) (((OpenSpec.ofChange Rows.tabsSizesSpec).at F).post enc Tryd.prog Tryd.f6 false true false false) := by
  obtain ⟨places, hx⟩ := reads os enc
  refine returnsInHanded_of_row (C := Tryd.checked) (s := OpenSpec.ofChange Rows.tabsSizesSpec) own started (by kernel_rfl) Tryd.func6
    (witness_row_at (enc := enc) (C := Tryd.checked) false (laidWorld os) #[.agg #[.int .u16 0, .int .u16 0, .int .u16 0], .slice none 0 0] rfl (by kernel_rfl) (by kernel_rfl) (by kernel_rfl)
      (OpenSpec.preRow_of_cond 8 hx (by kernel_rfl) (fun k hk => by cases hk) (by kernel_rfl) (laid_met os))) ?_
  intro W base args ds gs before hval hW _ _ _ hL _ _
  exact contract H enc W base args ds gs before hval hW hL
theorem said : Rows.TabsSizesSaid :=
  OpenClaim.holds_of_cond 6 Tryd.f6 rfl rfl rfl rfl rfl rfl rfl ⟨rfl, rfl, rfl, rfl, rfl⟩ rfl rfl rfl rfl rfl (by kernel_rfl) Tryd.func6 (by kernel_rfl)
    (of_decide_eq_true (by kernel_rfl)) (by unfold Func.isWrapper; first | (rw [if_pos (by decide +kernel)]; kernel_rfl) | (rw [if_neg (by decide +kernel)]; exact ⟨rfl, rfl⟩))
    (fun os started H enc _ F => by rw [OpenClaim.pre_eq_preRow]; exact lifted os started H enc F)
theorem plain (f : FuncId) (fn : Func) (hf : Tryd.pinned.checked.prog.funcNamed "marquee/marqueelaw14.TabsSizes" = some f) (hfn : Tryd.pinned.checked.prog.funcs[f]? = some fn) :
    false = Tryd.pinned.checked.prog.looks [] ∧ ∀ (j : Nat) t, fn.params[j]? = some t → Tryd.pinned.checked.prog.wantsStandIn t = false := by
  obtain rfl : f = 6 := Option.some.inj ((show Tryd.prog.funcNamed "marquee/marqueelaw14.TabsSizes" = some 6 by kernel_rfl).symm.trans hf) |>.symm
  obtain rfl : fn = Tryd.f6 := (Option.some.inj (Tryd.func6.symm.trans hfn)).symm
  refine ⟨by kernel_rfl, fun j t ht => ?_⟩
  rw [Tryd.params6] at ht
  rcases (show t = 49 ∨ t = 23 by simpa using Array.mem_of_getElem? ht) with rfl | rfl
  · exact (show Tryd.prog.wantsStandIn 49 = false by kernel_rfl)
  · exact (show Tryd.prog.wantsStandIn 23 = false by kernel_rfl)
theorem card : Rows.TabsSizesCardSaid :=
  Claim7.holds_tied_plain_at .later [] _ _ _ _ said (fun _ h => by cases h) (by kernel_rfl) (fun _ h => by cases h) tabsSizes_row_tie rfl ⟨rfl, rfl⟩ (by kernel_rfl) rfl plain (by kernel_rfl)
end Go.Proofs.YtifdekgmoekegaaDoor.tabsSizes
namespace Go.Proofs.YtifdekgmoekegaaDoor
theorem tabsSizes_holds : Rows.TabsSizesCardSaid := tabsSizes.card
#print axioms tabsSizes_holds
end Go.Proofs.YtifdekgmoekegaaDoor
