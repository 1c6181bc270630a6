/- A calculus for calls of the program: canonical values and heaps, and what each operation, loop and call does to them; no condition on the program. -/
import Derived.Test.YtphpngpfllealaaCv6e
namespace Go.Cv
open Go.RowKit

def opP (P : Program) (T : Nat → Option TI) (ev : Operand → V) (h : Heap) (K : V → Heap → Prop) : Op → Prop
  | .alloc t =>
    (match T t with
    | some ti => (match cellsOf ti.zero with | some cs => K (.ptr h.length 0) (h ++ [some (.cells cs)]) | none => False)
    | none => False)
  | .box _ x => (match cellsOf (ev x) with | some cs => K (.ptr h.length 0) (h ++ [some (.cells cs)]) | none => False)
  | .load t x =>
    (match ev x with
    | .ptr i q => (match hget h i with | some (.cells cs) => (match loadV T t cs q with | some v => K v h | none => False) | _ => False)
    | .iptr cs => (match loadV T t cs 0 with | some v => K v h | none => False)
    | _ => False)
  | .store t x y =>
    (match ev x with
    | .ptr i q =>
      (match hget h i, T t, cellsOf (ev y) with
      | some (.cells cs), some ti, some vs =>
        cond (allOne vs && vs.length == ti.size && Nat.ble (q + vs.length) cs.length) (K .undef (h.set i (some (.cells (setL cs q vs))))) False
      | _, _, _ => False)
    | _ => False)
  | .indexAddr t x i =>
    (match T t with
    | some ti =>
      (match ti.k, ev x, ev i with
      | .slice e, .psl sz xs _, .int _ n => (match T e with | some ei => cond (sz == ei.size) (∃ cs, (0 ≤ n ∧ xs[n.toNat]? = some cs) ∧ K (.iptr cs) h) False | none => False)
      | .slice e, .lsl id sz o m _, .int _ n => (match T e with | some ei => cond (sz == ei.size) ((0 ≤ n ∧ n < m) ∧ K (.ptr id (o + n.toNat * sz)) h) False | none => False)
      | .arr m e, .ptr id q, .int _ n => (match T e with | some ei => (0 ≤ n ∧ n < m) ∧ K (.ptr id (q + n.toNat * ei.size)) h | none => False)
      | .arr m e, .iptr cs, .int _ n => (match T e with | some ei => (0 ≤ n ∧ n < m) ∧ K (.iptr (cs.drop (n.toNat * ei.size))) h | none => False)
      | _, _, _ => False)
    | none => False)
  | .build t parts => (match buildV T t (parts.toList.map fun p => (p.1, ev p.2)) with | some v => K v h | none => False)
  | .buildSlice t n parts => buildSliceP T t n (parts.toList.map fun p => (p.1, ev p.2)) h K
  | .binOp op t x y _ =>
    (match op, ev x, ev y with
    | .quo, .int k a, .int k' b => cond (k == k') (b ≠ 0 ∧ K (.int k (k.wrap (a.tdiv b))) h) False
    | .rem, .int k a, .int k' b => cond (k == k') (b ≠ 0 ∧ K (.int k (a.tmod b)) h) False
    | .shl, .int k a, .int _ b => 0 ≤ b ∧ K (.int k (k.wrap (a * 2 ^ (min b.toNat k.bits)))) h
    | .shr, .int k a, .int _ b => 0 ≤ b ∧ K (.int k (a.fdiv (2 ^ (min b.toNat k.bits)))) h
    | op, x', y' => (match binV T op t x' y' with | some v => K v h | none => False))
  | .slice t x lo hi mx => (match mx with | none => sliceP T t (ev x) (lo.map ev) (hi.map ev) h K | some _ => False)
  | .index t x i => indexP T t (ev x) (ev i) h K
  | .call c =>
    (match c.callee with
    | .builtin .append =>
      (match c.argTypes.toList, c.args.toList.map ev with
      | [t, xt], [s, x] => appendP T t xt s x h K
      | _, _ => False)
    | .value f => (match ev f with | .fn (.func g) first caps => fl2 (first ++ (c.args.toList.map ev) ++ caps) fun args => Sem P g args h K | _ => False)
    | .builtin b => (match builtinV T b c.argTypes.toList (c.args.toList.map ev) with | some v => K v h | none => False)
    | .invoke .. => False)
  | op => (match pureOp T ev op with | some v => K v h | none => False)

theorem RvL_append {φ : Phi} {μ : Mu} {xs ys : List V} {a b : Array Value} (h1 : RvA φ μ xs a) (h2 : RvA φ μ ys b) : RvA φ μ (xs ++ ys) (a ++ b) := by
  refine ⟨by simp [h1.1, h2.1], fun j hj => ?_⟩
  simp only [List.length_append] at hj
  have l1 := h1.1
  by_cases h : j < xs.length
  · have e1 : (xs ++ ys).getD j .undef = xs.getD j .undef := by
      rw [List.getD_eq_getElem?_getD, List.getElem?_append_left h, ← List.getD_eq_getElem?_getD]
    have e2 : (a ++ b).getD j Go.undef = a.getD j Go.undef := by
      have : j < a.size := by omega
      simp [Array.getD_eq_getD_getElem?, Array.getElem?_append, this]
    rw [e1, e2]; exact h1.2 j h
  · have e1 : (xs ++ ys).getD j .undef = ys.getD (j - xs.length) .undef := by
      simp [List.getD_eq_getElem?_getD, List.getElem?_append_right (Nat.le_of_not_lt h)]
    have e2 : (a ++ b).getD j Go.undef = b.getD (j - xs.length) Go.undef := by
      have : ¬ j < a.size := by omega
      simp [Array.getD_eq_getD_getElem?, Array.getElem?_append, this, l1]
    rw [e1, e2]; exact h2.2 _ (by omega)

theorem RvA.toL {φ : Phi} {μ : Mu} {xs : List V} {a : Array Value} (h : RvA φ μ xs a) : RvL φ μ xs a :=
  ⟨h.1, fun j => by
    by_cases hj : j < xs.length
    · exact h.2 j hj
    · have : xs.getD j .undef = .undef := by simp [List.getElem?_eq_none (Nat.le_of_not_lt hj)]
      rw [this]; exact .undef _ _⟩


theorem wp_value {P : Program} {w w' : World} {R : Value → World → Prop} {a : Act} {o : Oper} {cv : Value} (Q : Exit → Act → World → Prop) (hx : (execOp a.eval o).run P w = .ok (.value cv) w') (hd : R cv w') :
    o.wp P a w (fun a' w' => ∃ cv, a' = a.put o.dst cv ∧ R cv w') Q := by
  unfold Oper.wp
  rw [hx, Oper.upon_value]
  exact ⟨cv, rfl, hd⟩
theorem wp_skipped {P : Program} {w w' : World} {R : Value → World → Prop} {a : Act} {o : Oper} (Q : Exit → Act → World → Prop) (hx : (execOp a.eval o).run P w = .ok .skip w') (hd : R Go.undef w') :
    o.wp P a w (fun a' w' => ∃ cv, a' = a.put o.dst cv ∧ R cv w') Q := by
  unfold Oper.wp
  rw [hx, Oper.upon_skip]
  exact ⟨Go.undef, rfl, hd⟩
theorem wp_H {P : Program} {φ : Phi} {μ : Mu} {B : Nat} {w : World} {K : V → Heap → Prop} {a : Act} {o : Oper} {Q : Exit → Act → World → Prop} (h : o.wp P a w (fun a' w' => ∃ cv, a' = a.put o.dst cv ∧ DoneH φ μ B w K cv w') Q) :
    o.wp P a w (fun a' w' => ∃ cv, a' = a.put o.dst cv ∧ Done φ μ B w K cv w') Q :=
  Oper.wp_mono (fun _ _ ⟨cv, h1, h2⟩ => ⟨cv, h1, h2.done⟩) h

theorem callFunc_enter {P : Program} {g : FuncId} {args : Array Value} {w : World} (h : ∃ fn, P.funcs[g]? = some fn ∧ fn.body.isSome = true ∧ (fn.name == "runtime.NumGoroutine") = false) : (callFunc g args).run P w = .ok (.enter g args) w := by
  obtain ⟨fn, h1, h2, h3⟩ := h
  have h4 : fn.body.isNone = false := by cases hb : fn.body <;> simp_all
  simp only [callFunc, Sem.run_bind, run_program, Result.andThen_ok, h1, h3, h4, Bool.false_eq_true, if_false, Sem.run_pure]

section
variable {P : Program} {T : Nat → Option TI} (hT : TOk P T) {φ : Phi} {μ : Mu} {B : Nat} {h : Heap} {w : World} (hB : B ≤ w.heap.size) (r : Rel φ μ B h w) {a : Act} {ev : Operand → V} (he : ∀ x, Rv φ μ (ev x) (a.eval x)) {K : V → Heap → Prop} (Q : Exit → Act → World → Prop)
include hT r he

theorem op_pure (o : Oper) (hk : match pureOp T ev o.op with | some v => K v h | none => False) : o.wp P a w (fun a' w' => ∃ cv, a' = a.put o.dst cv ∧ DoneH φ μ B w K cv w') Q := by
  split at hk
  · rename_i v hv
    obtain ⟨c, h1, h2⟩ := pureOp_ok hT he o w hv
    exact wp_value Q h1 (DoneH.here hk h2 r)
  · cases hk

theorem op_load (o : Oper) {t : Nat} {x : Operand} (ho : o.op = .load t x) (hk : opP P T ev h K (.load t x)) : o.wp P a w (fun a' w' => ∃ cv, a' = a.put o.dst cv ∧ DoneH φ μ B w K cv w') Q := by
  have hx := he x
  simp only [opP] at hk
  generalize ev x = vx at hk hx
  generalize hcx : a.eval x = cx at hx
  have hexec : ∀ cv, (Instr.loadAt t cx).run P w = .ok cv w → (execOp a.eval o).run P w = .ok (.value cv) w := fun cv hl => by
    unfold execOp
    simp only [ho, hcx, hl, Sem.run_bind, Result.andThen_ok, Sem.run_pure]
  split at hk
  · rename_i i q
    split at hk
    · rename_i cs hh
      split at hk
      · rename_i v hv
        cases hx; rename_i b hb
        obtain ⟨b', x', hb', h0, c, e, h1, h2, h3, h4⟩ := r.blk i _ hh
        rw [hb] at hb'
        simp only [Option.some.injEq, Prod.mk.injEq] at hb'
        obtain ⟨rfl, _⟩ := hb'
        obtain ⟨cv, g1, g2⟩ := run_load_ok hT (off := 0) (c := fun j => c.getD j Go.undef) hv (fun j hj => by
          have : j < c.size := by omega
          simp [World.cell?, h1, this]) h3 (w := w) (b := b)
        rw [Nat.zero_add] at g1
        exact wp_value Q (hexec cv g1) (DoneH.here hk g2 r)
      · cases hk
    · cases hk
  · rename_i cs
    split at hk
    · rename_i v hv
      cases hx; rename_i b off c h1 h2
      obtain ⟨cv, g1, g2⟩ := run_load_ok hT (off := off) (c := c) hv (fun j hj => r.cell _ _ _ (h1 j hj)) (fun j hj => (h2 j hj).mono φ.le_refl (mu0_le μ)) (w := w) (b := b)
      rw [Nat.add_zero] at g1
      exact wp_value Q (hexec cv g1) (DoneH.here hk g2 r)
    · cases hk
  · cases hk

theorem op_indexAddr (o : Oper) {t : Nat} {x i : Operand} (ho : o.op = .indexAddr t x i) (hk : opP P T ev h K (.indexAddr t x i)) : o.wp P a w (fun a' w' => ∃ cv, a' = a.put o.dst cv ∧ DoneH φ μ B w K cv w') Q := by
  have hx := he x
  have hi := he i
  simp only [opP] at hk
  generalize ev x = vx at hk hx
  generalize ev i = vi at hk hi
  generalize hcx : a.eval x = cx at hx
  generalize hci : a.eval i = ci at hi
  have hexec : ∀ cv, (Instr.indexAt t cx ci).run P w = .ok cv w → (execOp a.eval o).run P w = .ok (.value cv) w := fun cv hl => by
    unfold execOp
    simp only [ho, hcx, hci, hl, Sem.run_bind, Result.andThen_ok, Sem.run_pure]
  split at hk
  · rename_i ti hti
    obtain ⟨inf, d, z, k⟩ := hT t ti hti
    split at hk
    · rename_i e sz xs tok kk n hk'
      have hd := kind_slice (show kindOk (.slice e) d = true from hk' ▸ k.kind)
      subst hd
      split at hk
      · rename_i ei hei
        obtain ⟨inf2, d2, z2, k2⟩ := hT e ei hei
        cases hsz : (sz == ei.size) with
        | false => rw [hsz] at hk; cases hk
        | true =>
          rw [hsz] at hk
          have hsz' : sz = inf2.size := by rw [k2.size]; simpa using hsz
          obtain ⟨cs, ⟨hn, hcs⟩, hK⟩ := hk
          obtain ⟨hl, hE⟩ := List.getElem?_eq_some_iff.1 hcs
          cases hi
          cases hx with
          | psl0 => simp at hl
          | psl _ _ _ _ b off cap c h0 h1 h2 h3 h4 =>
            have hgd : xs.getD n.toNat [] = cs := by rw [List.getD_eq_getElem?_getD, hcs]; rfl
            have hlen := h1 n.toNat hl
            rw [hgd] at hlen
            refine wp_value Q (cv := .pointer (some ⟨b, off + n.toNat * sz, none⟩)) (hexec _ ?_) (DoneH.here hK (.iptr _ cs b (off + n.toNat * sz) (fun j => c n.toNat j) (fun j hj => h2 n.toNat j hl (by omega)) (fun j hj => ?_)) r)
            · simp only [Instr.indexAt, asIntOf, Sem.run_bind, Sem.run_pure, run_underlying k.und, Result.andThen_ok]
              have hlt : n < (xs.length : Int) := by omega
              simp only [hn, hlt, and_self, if_true, Sem.run_bind, run_sizeOf k2.info, Result.andThen_ok, Sem.run_pure, ← hsz']
              simp only [Addr.add]
              split <;> simp_all
            · have := h3 n.toNat j hl (by omega)
              rwa [hgd] at this
      · cases hk
    · rename_i e id sz q m cap kk n hk'
      have hd := kind_slice (show kindOk (.slice e) d = true from hk' ▸ k.kind)
      subst hd
      split at hk
      · rename_i ei hei
        obtain ⟨inf2, d2, z2, k2⟩ := hT e ei hei
        cases hsz : (sz == ei.size) with
        | false => rw [hsz] at hk; cases hk
        | true =>
          rw [hsz] at hk
          have hsz' : sz = inf2.size := by rw [k2.size]; simpa using hsz
          obtain ⟨⟨hn, hm⟩, hK⟩ := hk
          cases hi
          cases hx with
          | lsl _ _ _ _ _ _ b hb hcap =>
            refine wp_value Q (cv := .pointer (some ⟨b, q + n.toNat * sz, none⟩)) (hexec _ ?_) (DoneH.here hK (.ptr _ _ _ _ hb) r)
            simp only [Instr.indexAt, asIntOf, Sem.run_bind, Sem.run_pure, run_underlying k.und, Result.andThen_ok]
            simp only [hn, hm, and_self, if_true, Sem.run_bind, run_sizeOf k2.info, Result.andThen_ok, Sem.run_pure, ← hsz']
            simp only [Addr.add]
            split <;> simp_all
      · cases hk
    · rename_i m e id q kk n hk'
      have hd := kind_arr (show kindOk (.arr m e) d = true from hk' ▸ k.kind)
      subst hd
      split at hk
      · rename_i ei hei
        obtain ⟨inf2, d2, z2, k2⟩ := hT e ei hei
        obtain ⟨⟨hn, hm⟩, hK⟩ := hk
        cases hi
        cases hx with
        | ptr _ _ _ b hb =>
          rw [← k2.size] at hK
          refine wp_value Q (cv := .pointer (some ⟨b, q + n.toNat * inf2.size, none⟩)) (hexec _ ?_) (DoneH.here hK (.ptr _ _ _ _ hb) r)
          simp only [Instr.indexAt, asIntOf, Sem.run_bind, Sem.run_pure, run_underlying k.und, Result.andThen_ok, Instr.sureAddr]
          simp only [hn, hm, and_self, if_true, Sem.run_bind, run_sizeOf k2.info, Result.andThen_ok, Sem.run_pure]
          simp only [Addr.add]
          split <;> simp_all
      · cases hk
    · rename_i m e cs kk n hk'
      have hd := kind_arr (show kindOk (.arr m e) d = true from hk' ▸ k.kind)
      subst hd
      split at hk
      · rename_i ei hei
        obtain ⟨inf2, d2, z2, k2⟩ := hT e ei hei
        obtain ⟨⟨hn, hm⟩, hK⟩ := hk
        cases hi
        cases hx with
        | iptr _ _ b off c h1 h2 =>
          rw [← k2.size] at hK
          refine wp_value Q (cv := .pointer (some ⟨b, off + n.toNat * inf2.size, none⟩)) (hexec _ ?_) (DoneH.here hK (.iptr _ _ b _ (fun j => c (n.toNat * inf2.size + j)) (fun j hj => ?_) (fun j hj => ?_)) r)
          · simp only [Instr.indexAt, asIntOf, Sem.run_bind, Sem.run_pure, run_underlying k.und, Result.andThen_ok, Instr.sureAddr]
            simp only [hn, hm, and_self, if_true, Sem.run_bind, run_sizeOf k2.info, Result.andThen_ok, Sem.run_pure]
            simp only [Addr.add]
            split <;> simp_all
          · simp at hj; have := h1 (n.toNat * inf2.size + j) (by omega); rwa [← Nat.add_assoc] at this
          · simp at hj
            have := h2 (n.toNat * inf2.size + j) (by omega)
            have e : (cs.drop (n.toNat * inf2.size)).getD j .undef = cs.getD (n.toNat * inf2.size + j) .undef := by simp [List.getElem?_drop]
            rw [e]; exact this
      · cases hk
    · cases hk
  · cases hk

theorem op_bin (o : Oper) {op : BinOp} {t ty : Nat} {x y : Operand} (ho : o.op = .binOp op t x y ty) (hk : opP P T ev h K (.binOp op t x y ty)) : o.wp P a w (fun a' w' => ∃ cv, a' = a.put o.dst cv ∧ DoneH φ μ B w K cv w') Q := by
  have hx := he x
  have hy := he y
  simp only [opP] at hk
  generalize hvx : ev x = vx at hk hx
  generalize hvy : ev y = vy at hk hy
  generalize hcx : a.eval x = cx at hx
  generalize hcy : a.eval y = cy at hy
  split at hk
  · rename_i k a1 k' b
    cases hkk : (k == k') with
    | false => rw [hkk] at hk; cases hk
    | true =>
      rw [hkk] at hk
      have : k = k' := by simpa using hkk
      subst this
      obtain ⟨hb, hK⟩ := hk
      cases hx; cases hy
      refine wp_value Q (run_binExec ho (by rw [hcx, hcy]; exact eqGuard_int _ _ _ _ _ _ _ _ _) (v := .int k (k.wrap (a1.tdiv b))) ?_) (DoneH.here hK (.int _ _ _) r)
      rw [hcx, hcy]
      simp [binOp, Op.intDiv, hb]
  · rename_i k a1 k' b
    cases hkk : (k == k') with
    | false => rw [hkk] at hk; cases hk
    | true =>
      rw [hkk] at hk
      have : k = k' := by simpa using hkk
      subst this
      obtain ⟨hb, hK⟩ := hk
      cases hx; cases hy
      refine wp_value Q (run_binExec ho (by rw [hcx, hcy]; exact eqGuard_int _ _ _ _ _ _ _ _ _) (v := .int k (a1.tmod b)) ?_) (DoneH.here hK (.int _ _ _) r)
      rw [hcx, hcy]
      simp [binOp, Op.intDiv, hb]
  · rename_i k a1 k' b
    obtain ⟨hb, hK⟩ := hk
    cases hx; cases hy
    refine wp_value Q (run_binExec ho (by rw [hcx, hcy]; exact eqGuard_int _ _ _ _ _ _ _ _ _) (v := .int k (k.wrap (a1 * 2 ^ (min b.toNat k.bits)))) ?_) (DoneH.here hK (.int _ _ _) r)
    rw [hcx, hcy]
    have : ¬ b < 0 := by omega
    simp [binOp, Op.shift, this]
  · rename_i k a1 k' b
    obtain ⟨hb, hK⟩ := hk
    cases hx; cases hy
    refine wp_value Q (run_binExec ho (by rw [hcx, hcy]; exact eqGuard_int _ _ _ _ _ _ _ _ _) (v := .int k (a1.fdiv (2 ^ (min b.toNat k.bits)))) ?_) (DoneH.here hK (.int _ _ _) r)
    rw [hcx, hcy]
    have : ¬ b < 0 := by omega
    simp [binOp, Op.shift, this]
  · split at hk
    · rename_i v hv
      obtain ⟨c, h1, h2⟩ := binV_ok hT (w := w) ho hv (hcx ▸ hx) (hcy ▸ hy)
      exact wp_value Q h1 (DoneH.here hk h2 r)
    · cases hk

omit hT in
include hB in
theorem op_call (o : Oper) {c : Call} {f : Operand} (ho : o.op = .call c) (hf : c.callee = .value f) (hk : match ev f with | .fn (.func g) first caps => fl2 (first ++ (c.args.toList.map ev) ++ caps) fun args => Sem P g args h K | _ => False) : o.wp P a w (fun a' w' => ∃ cv, a' = a.put o.dst cv ∧ Done φ μ B w K cv w') Q := by
  have hfv := he f
  generalize ev f = vf at hk hfv
  generalize hcf : a.eval f = cf at hfv
  split at hk
  · rename_i g first caps
    rw [fl2_eq] at hk
    cases hfv with
    | fn _ _ _ _ c1 c2 l1 l2 h1 h2 =>
      have hA : RvL φ μ (first ++ (c.args.toList.map ev) ++ caps) (c1 ++ c.args.map a.eval ++ c2) :=
        (RvL_append (RvL_append ⟨l1, h1⟩ ⟨(evL he c.args).1, (evL he c.args).2⟩) ⟨l2, h2⟩).toL
      have hcalls := hk.run φ μ B w _ hB r hA
      have hrun : (execOp a.eval o).run P w = .ok (.enter g (c1 ++ c.args.map a.eval ++ c2)) w := by
        unfold execOp
        simp only [ho, resolve, hf, hcf, Deferred.ofValue, Sem.run_bind, Sem.run_pure, Result.andThen_ok, invoke]
        exact callFunc_enter hk.body
      unfold Oper.wp
      rw [hrun, Oper.upon_enter]
      refine hcalls.mono fun e w' he' => ?_
      obtain ⟨v, h', φ', μ', cv, rfl, hK, hv, hr, hx, hfr⟩ := he'
      exact ⟨cv, rfl, v, h', φ', μ', hK, hv, hr, hx, hfr⟩
  · cases hk

omit hT he in
include hB in
theorem op_new (o : Oper) {cs : List V} {c : Array Value} {e : TypeId} (hx : (execOp a.eval o).run P w = .ok (.value (.pointer (some ⟨w.heap.size, 0, none⟩))) (w.alloc (.cells c e))) (hc : RvA φ μ cs c) (hk : K (.ptr h.length 0) (h ++ [some (.cells cs)])) :
    o.wp P a w (fun a' w' => ∃ cv, a' = a.put o.dst cv ∧ Done φ μ B w K cv w') Q :=
  wp_value Q hx ⟨_, _, φ, μ.add h.length w.heap.size none, hk, .ptr _ _ _ _ (by unfold Mu.add; rw [if_pos rfl]), r.allocCells hB e hc, Ext.alloc r, Fr.alloc _ _ _⟩

omit he in
include hB in
theorem op_alloc (o : Oper) {t : Nat} (ho : o.op = .alloc t) (hk : opP P T ev h K (.alloc t)) : o.wp P a w (fun a' w' => ∃ cv, a' = a.put o.dst cv ∧ Done φ μ B w K cv w') Q := by
  simp only [opP] at hk
  split at hk
  · rename_i ti hti
    obtain ⟨i, d, z, k⟩ := hT t ti hti
    split at hk
    · rename_i cs hcs
      refine op_new hB r Q o (c := z.cells) (e := t) ?_ (cellsOf_ok (k.zrv φ μ) hcs) hk
      unfold execOp
      simp only [ho, Instr.alloc, run_zeroValue k.info k.zero, newVar, newRow, run_newObj', Sem.run_bind, Sem.run_pure, Result.andThen_ok]
    · cases hk
  · cases hk

omit hT in
include hB in
theorem op_box (o : Oper) {t : Nat} {x : Operand} (ho : o.op = .box t x) (hk : opP P T ev h K (.box t x)) : o.wp P a w (fun a' w' => ∃ cv, a' = a.put o.dst cv ∧ Done φ μ B w K cv w') Q := by
  simp only [opP] at hk
  split at hk
  · rename_i cs hcs
    refine op_new hB r Q o (c := (a.eval x).cells) (e := t) ?_ (cellsOf_ok (he x) hcs) hk
    unfold execOp
    simp only [ho, Instr.box, newVar, newRow, run_newObj', Sem.run_bind, Sem.run_pure, Result.andThen_ok]
  · cases hk

theorem op_store (o : Oper) {t : Nat} {x y : Operand} (ho : o.op = .store t x y) (hk : opP P T ev h K (.store t x y)) : o.wp P a w (fun a' w' => ∃ cv, a' = a.put o.dst cv ∧ DoneH φ μ B w K cv w') Q := by
  have hx := he x
  have hy := he y
  simp only [opP] at hk
  generalize ev x = vx at hk hx
  generalize ev y = vy at hk hy
  generalize hcx : a.eval x = cx at hx
  generalize hcy : a.eval y = cy at hy
  split at hk
  · rename_i i q
    split at hk
    · rename_i cs ti vs hh hti hvs
      obtain ⟨inf, d, z, k⟩ := hT t ti hti
      cases hc : (allOne vs && vs.length == ti.size && Nat.ble (q + vs.length) cs.length) with
      | false => rw [hc] at hk; cases hk
      | true =>
        rw [hc] at hk
        simp only [cond_true] at hk
        simp only [Bool.and_eq_true, beq_iff_eq] at hc
        obtain ⟨⟨hone, hlen⟩, hle⟩ := hc
        have hle := Nat.le_of_ble_eq_true hle
        have hvA := cellsOf_ok hy hvs
        cases hx; rename_i b hb
        obtain ⟨b', x', hb', h0, c, e, h1, h2, h3, h4⟩ := r.blk i _ hh
        rw [hb] at hb'
        simp only [Option.some.injEq, Prod.mk.injEq] at hb'
        obtain ⟨rfl, _⟩ := hb'
        have hlist : cy.cells.toList.length = vs.length := by simp [hvA.1]
        have hones : ∀ v ∈ cy.cells.toList, v.oneCell' = true := fun v hv => by
          obtain ⟨j, hj, hE⟩ := List.getElem_of_mem hv
          have hj' : j < vs.length := by omega
          have h5 := hvA.2 j hj'
          have e1 : cy.cells.getD j Go.undef = v := by
            rw [← hE]
            simp only [Array.length_toList] at hj
            simp [hj]
          have e2 : vs.getD j .undef = vs[j] := by simp [hj']
          rw [e1, e2] at h5
          refine (one_cells h5 ?_).2
          unfold allOne at hone
          rw [List.all_eq_true] at hone
          exact hone _ (List.getElem_mem hj')
        have hst := run_storeCells_at P b q e cy.cells.toList 0 c w h1 (by omega) hones
        simp only [Nat.add_zero] at hst
        have hsz : cy.cells.size = inf.size := by rw [k.size, ← hlen, hvA.1]
        have hcA : RvA φ μ cs c := ⟨h2.symm, h3⟩
        have hnew := setL_rvA hcA (o := q) (us := cy.cells.toList) hlist.symm (fun j hj => by
          have := hvA.2 j hj
          have e : cy.cells.toList.getD j Go.undef = cy.cells.getD j Go.undef := by simp
          rw [e]; exact this) hle
        refine wp_skipped Q ?_ ⟨.undef, _, φ, hk, .undef _ _, r.storeRow hh hb h1 ?_ hnew, Ext.refl _ _ _, Fr.setRow hb _⟩
        · unfold execOp
          simp only [ho, hcx, hcy, Instr.storeAt, Instr.sureAddr, storeVar, Sem.run_bind, Sem.run_pure, Result.andThen_ok, run_sizeOf k.info, hsz, ne_eq, not_true_eq_false, if_false, hst]
        · have hg : cy.cells.toList.length = vs.length := hlist
          simp only [List.size_toArray, List.length_append, List.length_take, List.length_drop, Array.length_toList]
          simp only [Array.length_toList] at hg
          omega
    · cases hk
  · cases hk

omit hT r in
theorem parts_rel (parts : Array (Nat × Operand)) : (parts.toList.map fun p => (p.1, ev p.2)).length = (parts.map fun (i, x) => (i, a.eval x)).toList.length ∧
    ∀ (j : Nat) (p : Nat × V) (q : Nat × Value), (parts.toList.map fun p => (p.1, ev p.2))[j]? = some p → (parts.map fun (i, x) => (i, a.eval x)).toList[j]? = some q → p.1 = q.1 ∧ Rv φ μ p.2 q.2 := by
  refine ⟨by simp, fun j p q hp hq => ?_⟩
  simp only [List.getElem?_map] at hp
  simp only [Array.toList_map, List.getElem?_map] at hq
  cases hx : parts.toList[j]? with
  | none => rw [hx] at hp; cases hp
  | some x =>
    rw [hx] at hp hq
    simp only [Option.map_some, Option.some.injEq] at hp hq
    subst hp; subst hq
    exact ⟨rfl, he x.2⟩

omit r he in
theorem run_places (gs : Array Field) (fs : List (Nat × Nat)) (hgs : gs.toList.map (fun f => (f.offset, f.type)) = fs) (hall : (fs.all fun f => (T f.2).isSome) = true) :
    (gs.mapM fun f => (do pure (f.offset, ← sizeOf f.type) : Go.Sem (Nat × Nat))).run P w = .ok (fs.map fun f => (f.1, sizeT T f.2)).toArray w := by
  rw [Array.mapM_eq_mapM_toList]
  rw [List.all_eq_true] at hall
  have key : ∀ (l : List Field) (fs : List (Nat × Nat)), l.map (fun f => (f.offset, f.type)) = fs → (∀ f ∈ fs, (T f.2).isSome = true) →
      (l.mapM fun f => (do pure (f.offset, ← sizeOf f.type) : Go.Sem (Nat × Nat))).run P w = .ok (fs.map fun f => (f.1, sizeT T f.2)) w := by
    intro l
    induction l with
    | nil => intro fs h _; simp at h; subst h; rfl
    | cons f l ih =>
      intro fs h h1
      simp only [List.map_cons] at h
      subst h
      have hf := h1 (f.offset, f.type) (by simp)
      cases hti : T f.type with
      | none => rw [hti] at hf; cases hf
      | some ti =>
        obtain ⟨i, d, z, k⟩ := hT _ _ hti
        have hst : sizeT T f.type = ti.size := by simp [sizeT, hti]
        have := ih _ rfl (fun g hg => h1 g (by simp [hg]))
        simp only [List.mapM_cons, Sem.run_bind, run_sizeOf k.info, Result.andThen_ok, Sem.run_pure, this, k.size, List.map_cons, hst]
  have := key gs.toList fs hgs hall
  simp only [Sem.run_map, this]
  rfl

theorem op_build (o : Oper) {t : Nat} {parts : Array (Nat × Operand)} (ho : o.op = .build t parts) (hk : opP P T ev h K (.build t parts)) : o.wp P a w (fun a' w' => ∃ cv, a' = a.put o.dst cv ∧ DoneH φ μ B w K cv w') Q := by
  simp only [opP] at hk
  obtain ⟨hl, hr⟩ := parts_rel he parts
  generalize (parts.toList.map fun p => (p.1, ev p.2)) = ps at hk hl hr
  split at hk
  · rename_i v hv
    have key : ∃ cv, (Instr.build t (parts.map fun (i, x) => (i, a.eval x))).run P w = .ok cv w ∧ Rv φ μ v cv := by
      unfold buildV at hv
      split at hv
      · rename_i ti hti
        obtain ⟨i, d, z, k⟩ := hT t ti hti
        have hz := k.zrv φ μ
        split at hv
        · rename_i fs zc hk' hzc
          rw [hzc] at hz
          obtain ⟨zc', rfl, hzA⟩ := hz.agg_inv
          obtain ⟨gs, rfl, hgs⟩ := kind_struct (show kindOk (.struct fs) d = true from hk' ▸ k.kind)
          cases hall : (fs.all fun f => (T f.2).isSome) with
          | false => rw [hall] at hv; cases hv
          | true =>
            rw [hall] at hv
            simp only [cond_true] at hv
            split at hv
            · rename_i cs hcs
              simp only [Option.some.injEq] at hv; subst hv
              have hplaces := run_places hT (w := w) gs fs hgs hall
              obtain ⟨c', h1, h2⟩ := fillV_ok _ ps _ _ _ _ hzA hl hr hcs
              refine ⟨.agg c', ?_, h2.agg⟩
              have hfun : (fun (i : Nat) => (fs.map fun f => (f.1, sizeT T f.2)).toArray[i]?) = (fun (i : Nat) => (fs.map fun f => (f.1, sizeT T f.2))[i]?) := by funext i; simp
              rw [← hfun] at h1
              simp only [Instr.build, Sem.run_bind, run_zeroValue k.info k.zero, Result.andThen_ok, run_underlying k.und, hplaces]
              have hcells : (Value.agg zc').cells = zc' := rfl
              rw [hcells, h1]
              rfl
            · cases hv
        · rename_i m e zc hk' hzc
          rw [hzc] at hz
          obtain ⟨zc', rfl, hzA⟩ := hz.agg_inv
          have hd := kind_arr (show kindOk (.arr m e) d = true from hk' ▸ k.kind)
          subst hd
          split at hv
          · rename_i ei hei
            obtain ⟨i2, d2, z2, k2⟩ := hT e ei hei
            split at hv
            · rename_i cs hcs
              simp only [Option.some.injEq] at hv; subst hv
              obtain ⟨c', h1, h2⟩ := fillV_ok _ ps _ _ _ _ hzA hl hr hcs
              refine ⟨.agg c', ?_, h2.agg⟩
              rw [← k2.size] at h1
              simp only [Instr.build, Sem.run_bind, run_zeroValue k.info k.zero, Result.andThen_ok, run_underlying k.und, run_sizeOf k2.info]
              have hcells : (Value.agg zc').cells = zc' := rfl
              rw [hcells, h1]
              rfl
            · cases hv
          · cases hv
        · cases hv
      · cases hv
    obtain ⟨cv, h1, h2⟩ := key
    refine wp_value Q (cv := cv) ?_ (DoneH.here hk h2 r)
    unfold execOp
    simp only [ho, h1, Sem.run_bind, Result.andThen_ok, Sem.run_pure]
  · cases hk

include hB in
theorem op_buildSlice (o : Oper) {t n : Nat} {parts : Array (Nat × Operand)} (ho : o.op = .buildSlice t n parts) (hk : opP P T ev h K (.buildSlice t n parts)) : o.wp P a w (fun a' w' => ∃ cv, a' = a.put o.dst cv ∧ (DoneH φ μ B w K cv w' ∨ ((∃ id sz o n c h', K (.lsl id sz o n c) h') ∧ Done φ μ B w K cv w'))) Q := by
  simp only [opP] at hk
  obtain ⟨hl, hr⟩ := parts_rel he parts
  generalize (parts.toList.map fun p => (p.1, ev p.2)) = ps at hk hl hr
  unfold buildSliceP at hk
  split at hk
  · rename_i ti hti
    obtain ⟨i, d, z, k⟩ := hT t ti hti
    split at hk
    · rename_i e hk'
      have hd := kind_slice (show kindOk (.slice e) d = true from hk' ▸ k.kind)
      subst hd
      split at hk
      · rename_i ei hei
        obtain ⟨i2, d2, z2, k2⟩ := hT e ei hei
        split at hk
        · rename_i flat hflat
          rw [fl2_eq, fll_eq] at hk
          cases hc : Nat.ble (n * ei.size) 16777216 with
          | false => rw [hc] at hk; cases hk
          | true =>
            rw [hc] at hk
            simp only [cond_true] at hk
            have hle := Nat.le_of_ble_eq_true hc
            have hstart : ∀ c : Array Value, c.size = n * ei.size → RvA φ μ (flatOf (n * ei.size)) c := fun c hcs => ⟨by simp [flatOf, hcs], fun j hj => by
              have : (flatOf (n * ei.size)).getD j V.undef = .undef := by
                simp only [flatOf, List.getD_eq_getElem?_getD, List.getElem?_replicate]
                split <;> rfl
              rw [this]; exact .undef _ _⟩
            have hrun : ∃ cells : Array Value, (Instr.buildSlice t n (parts.map fun (i, x) => (i, a.eval x))).run P w = .ok (.slice (some ⟨w.heap.size, 0, none⟩) n n) (w.alloc (.cells cells e)) ∧ RvA φ μ flat cells := by
              have hno : ¬ (n * i2.size > 2 ^ 24) := by rw [k2.size]; omega
              by_cases h0 : n * i2.size = 0
              · obtain ⟨cells, h1, h2⟩ := fillV_ok (φ := φ) (μ := μ) (fun i => some (i * ei.size, ei.size)) ps _ _ ((Array.range (n * i2.size)).map fun j => (#[] : Array Value)[j % (#[] : Array Value).size]!) flat (hstart _ (by simp [k2.size])) hl hr hflat
                refine ⟨cells, ?_, h2⟩
                rw [← k2.size] at h1
                simp only [Instr.buildSlice, Sem.run_bind, run_underlying k.und, Result.andThen_ok, run_sizeOf k2.info, hno, if_false]
                rw [if_pos h0]
                simp only [Sem.run_bind, Sem.run_pure, Result.andThen_ok]
                simp only [h1, newRow, Sem.run_bind, run_newObj', Result.andThen_ok, Sem.run_pure]
              · obtain ⟨cells, h1, h2⟩ := fillV_ok (φ := φ) (μ := μ) (fun i => some (i * ei.size, ei.size)) ps _ _ ((Array.range (n * i2.size)).map fun j => z2.cells[j % z2.cells.size]!) flat (hstart _ (by simp [k2.size])) hl hr hflat
                refine ⟨cells, ?_, h2⟩
                rw [← k2.size] at h1
                simp only [Instr.buildSlice, Sem.run_bind, run_underlying k.und, Result.andThen_ok, run_sizeOf k2.info, hno, if_false, h0, run_zeroValue k2.info k2.zero, Sem.run_pure, h1, newRow, run_newObj']
            obtain ⟨cells, hrun, hA⟩ := hrun
            have hexec : (execOp a.eval o).run P w = .ok (.value (.slice (some ⟨w.heap.size, 0, none⟩) n n)) (w.alloc (.cells cells e)) := by
              unfold execOp
              simp only [ho, hrun, Sem.run_bind, Result.andThen_ok, Sem.run_pure]
            have hfl : flat.length = n * ei.size := by
              have := fillV_length _ _ _ _ hflat
              simpa [flatOf] using this
            cases hfree : (flat.all fun v => v.free1 && v.one) with
            | true =>
              rw [hfree] at hk
              simp only [cond_true] at hk
              rw [List.all_eq_true] at hfree
              have hone : ∀ v ∈ cells, v.oneCell' = true := fun v hv => by
                obtain ⟨j, hj, hE⟩ := Array.getElem_of_mem hv
                have hj' : j < flat.length := by rw [hA.1]; exact hj
                have h5 := hA.2 j hj'
                have e1 : cells.getD j Go.undef = v := by rw [← hE]; simp [hj]
                have e2 : flat.getD j .undef = flat[j] := by simp [hj']
                rw [e1, e2] at h5
                have h6 := hfree flat[j] (List.getElem_mem hj')
                simp only [Bool.and_eq_true] at h6
                exact (one_cells h5 h6.2).2
              obtain ⟨hle', hr'⟩ := r.allocPhi cells e hone
              have hcsz := hA.1
              have hrv : Rv (φ.add w.heap.size cells hone) μ (.psl ei.size (chunks ei.size flat n) .exact) (.slice (some ⟨w.heap.size, 0, none⟩) (chunks ei.size flat n).length n) := by
                refine .psl _ _ _ _ _ _ _ (fun i j => cells.getD (i * ei.size + j) Go.undef) (by rw [chunks_length]; exact Nat.le_refl _) (fun i hi => ?_) (fun i j hi hj => ?_) (fun i j hi hj => ?_) (by show n = _; rw [chunks_length])
                · rw [chunks_length] at hi
                  rw [chunks_get _ _ _ _ hi]
                  have : (i + 1) * ei.size ≤ n * ei.size := Nat.mul_le_mul_right _ (by omega)
                  rw [Nat.add_mul] at this
                  simp; omega
                · rw [chunks_length] at hi
                  have : (i + 1) * ei.size ≤ n * ei.size := Nat.mul_le_mul_right _ (by omega)
                  rw [Nat.add_mul] at this
                  have hlt : i * ei.size + j < cells.size := by omega
                  simp only [Phi.add, if_true, Nat.zero_add]
                  simp [hlt]
                · rw [chunks_length] at hi
                  rw [chunks_get _ _ _ _ hi]
                  have : (i + 1) * ei.size ≤ n * ei.size := Nat.mul_le_mul_right _ (by omega)
                  rw [Nat.add_mul] at this
                  have hlt : i * ei.size + j < flat.length := by omega
                  have h5 := hA.2 _ hlt
                  have e2 : ((flat.drop (i * ei.size)).take ei.size).getD j .undef = flat.getD (i * ei.size + j) .undef := by simp [hj, List.getElem?_drop]
                  rw [e2]
                  have h6 := hfree flat[i * ei.size + j] (List.getElem_mem hlt)
                  simp only [Bool.and_eq_true] at h6
                  have e3 : flat.getD (i * ei.size + j) .undef = flat[i * ei.size + j] := by simp [hlt]
                  rw [e3] at h5 ⊢
                  exact (free1_rv h5 h6.1 mu0).mono hle' (Mu.le_refl _)
              rw [chunks_length] at hrv
              exact wp_value Q hexec (.inl ⟨_, h, _, hk, hrv, hr', Ext.phiAdd φ μ w cells hone hle', Fr.alloc _ _ _⟩)
            | false =>
              rw [hfree] at hk
              simp only [cond_false] at hk
              exact wp_value Q hexec (.inr ⟨⟨_, _, _, _, _, _, hk⟩, _, _, φ, μ.add h.length w.heap.size none, hk, .lsl _ _ _ _ _ _ _ (by unfold Mu.add; rw [if_pos rfl]) (Nat.le_refl _), r.allocCells hB e hA, Ext.alloc r, Fr.alloc _ _ _⟩)
        · cases hk
      · cases hk
    · cases hk
  · cases hk

theorem op_slice (o : Oper) {t : Nat} {x : Operand} {lo hi mx : Option Operand} (ho : o.op = .slice t x lo hi mx) (hk : opP P T ev h K (.slice t x lo hi mx)) : o.wp P a w (fun a' w' => ∃ cv, a' = a.put o.dst cv ∧ DoneH φ μ B w K cv w') Q := by
  simp only [opP] at hk
  split at hk
  · obtain ⟨cv, h1, h2⟩ := sliceP_ok hT (clo := lo.map a.eval) (chi := hi.map a.eval) r (he x) (by cases lo <;> simp [he]) (by cases hi <;> simp [he]) hk
    refine wp_value Q ?_ h2
    unfold execOp
    simp only [ho, Option.map_none, h1, Sem.run_bind, Result.andThen_ok, Sem.run_pure]
  · cases hk

theorem op_index (o : Oper) {t : Nat} {x i : Operand} (ho : o.op = .index t x i) (hk : opP P T ev h K (.index t x i)) : o.wp P a w (fun a' w' => ∃ cv, a' = a.put o.dst cv ∧ DoneH φ μ B w K cv w') Q := by
  simp only [opP] at hk
  obtain ⟨cv, h1, h2⟩ := indexP_ok hT r (he x) (he i) hk
  refine wp_value Q ?_ h2
  unfold execOp
  simp only [ho, h1, Sem.run_bind, Result.andThen_ok, Sem.run_pure]

include hB in
theorem op_append (o : Oper) {c : Call} (ho : o.op = .call c) (hc : c.callee = .builtin .append) (hk : match c.argTypes.toList, c.args.toList.map ev with | [t, xt], [s, x] => appendP T t xt s x h K | _, _ => False) : o.wp P a w (fun a' w' => ∃ cv, a' = a.put o.dst cv ∧ Done φ μ B w K cv w') Q := by
  split at hk
  · rename_i t xt s x h1 h2
    have hts : c.argTypes = #[t, xt] := by rw [← Array.toArray_toList (xs := c.argTypes), h1]
    obtain ⟨l1, l2⟩ := evL he c.args
    have hsz : c.args.toList.length = 2 := by have := congrArg List.length h2; simpa using this
    match hargs : c.args.toList, hsz with
    | [p, q], _ =>
      rw [hargs] at h2
      simp only [List.map_cons, List.map_nil, List.cons.injEq, and_true] at h2
      obtain ⟨rfl, rfl⟩ := h2
      have hca : c.args = #[p, q] := by rw [← Array.toArray_toList (xs := c.args), hargs]
      obtain ⟨cv, w', g1, g2⟩ := appendP_ok (ty := o.type) hT hB r (he p) (he q) hk
      refine wp_value Q ?_ g2
      unfold execOp
      simp only [ho, resolve, hc, invoke, Sem.run_bind, Sem.run_pure, Result.andThen_ok, builtin, hts, hca, List.map_toArray, List.map_cons, List.map_nil, g1]
  · cases hk

include hB in
theorem opP_ok (o : Oper) (hk : opP P T ev h K o.op) : o.wp P a w (fun a' w' => ∃ cv, a' = a.put o.dst cv ∧ Done φ μ B w K cv w') Q := by
  cases ho : o.op <;> rw [ho] at hk
  case alloc t => exact op_alloc hT hB r Q o ho hk
  case box t x => exact op_box hB r he Q o ho hk
  case load t x => exact wp_H (op_load hT r he Q o ho hk)
  case store t x y => exact wp_H (op_store hT r he Q o ho hk)
  case build t parts => exact wp_H (op_build hT r he Q o ho hk)
  case buildSlice t n parts => exact Oper.wp_mono (fun _ _ ⟨cv, h1, h2⟩ => ⟨cv, h1, h2.elim DoneH.done (·.2)⟩) (op_buildSlice hT hB r he Q o ho hk)
  case slice t x lo hi mx => exact wp_H (op_slice hT r he Q o ho hk)
  case index t x i => exact wp_H (op_index hT r he Q o ho hk)
  case indexAddr t x i => exact wp_H (op_indexAddr hT r he Q o ho hk)
  case binOp op t x y ty => exact wp_H (op_bin hT r he Q o ho hk)
  case call c =>
    simp only [opP] at hk
    split at hk
    · rename_i hcal
      exact op_append hT hB r he Q o ho hcal hk
    · rename_i f hf
      exact op_call hB r he Q o ho hf hk
    · rename_i b _ hb
      refine wp_H (op_pure hT r he Q o ?_)
      rw [ho]
      simp only [pureOp, hb]
      exact hk
    · cases hk
  all_goals (refine wp_H (op_pure hT r he Q o ?_); rw [ho]; exact hk)
end
end Go.Cv
