/- A calculus for calls of the program: canonical values and heaps, and what each operation, loop and call does to them; no condition on the program. -/
import Derived.Test.YtphpngpfllealaaCv9
namespace Go.Cv
open Go.RowKit

/-! ### Regions that draw their order -/
def isPsl : V → Bool
  | .psl .. => true
  | _ => false

/-- One operation, its outcome one, whatever comes beside it: its value, the blocks that it writes, the blocks that it looks at. -/
def opQ (P : Program) (T : Nat → Option TI) (ev : Operand → V) (h : Heap) (nid : Nat) (K : V → List (Nat × Blk) → List Nat → Prop) : Op → Prop
  | .alloc t =>
    (match T t with
    | some ti => (match cellsOf ti.zero with | some cs => K (.ptr nid 0) [(nid, .cells cs)] [nid] | none => False)
    | none => False)
  | .box _ x => (match cellsOf (ev x) with | some cs => K (.ptr nid 0) [(nid, .cells cs)] [nid] | none => False)
  | .load t x =>
    (match ev x with
    | .ptr i q => (match hget h i with | some (.cells cs) => (match loadV T t cs q with | some v => K v [] [i] | none => False) | _ => False)
    | .iptr cs => (match loadV T t cs 0 with | some v => K v [] [] | none => False)
    | _ => False)
  | .store t x y =>
    (match ev x with
    | .ptr i q =>
      (match hget h i, T t, cellsOf (ev y) with
      | some (.cells cs), some ti, some vs =>
        cond (allOne vs && vs.length == ti.size && Nat.ble (q + vs.length) cs.length) (K .undef [(i, .cells (setL cs q vs))] [i]) False
      | _, _, _ => False)
    | _ => False)
  | .call c =>
    (match c.callee with
    | .builtin .append => False
    | .value f => (match ev f with | .fn (.func g) first caps => fl2 (first ++ (c.args.toList.map ev) ++ caps) fun args => ∃ v, Fn P g args v ∧ K v [] [] | _ => False)
    | .builtin b => (match builtinV T b c.argTypes.toList (c.args.toList.map ev) with | some v => K v [] [] | none => False)
    | .invoke .. => False)
  | .buildSlice t n parts => buildSliceP T t n (parts.toList.map fun p => (p.1, ev p.2)) [] fun v _ => cond (isPsl v) (K v [] []) False
  | op => opP P T ev [] (fun v _ => K v [] []) op

/-- Operations that do not look at blocks. -/
def restOp : Op → Bool
  | .alloc _ | .box .. | .load .. | .store .. | .call _ | .buildSlice .. => false
  | _ => true

theorem rest_heap {P : Program} {T : Nat → Option TI} {ev : Operand → V} {h : Heap} {J : V → Prop} (op : Op) (hr : restOp op = true) (hk : opP P T ev [] (fun v _ => J v) op) : opP P T ev h (fun v h' => J v ∧ h' = h) op := by
  cases op <;> simp only [restOp, Bool.false_eq_true] at hr <;> simp only [opP] at hk ⊢
  case build => split at hk <;> first | exact ⟨hk, by trivial⟩ | exact hk.elim
  case slice =>
    split at hk
    · unfold sliceP at hk ⊢
      split at hk
      · split at hk
        · split at hk
          · exact ⟨hk.1, hk.2, by trivial⟩
          · exact hk.elim
        · split at hk
          · exact cond_mono (fun hk => ⟨hk.1, hk.2, by trivial⟩) hk
          · exact hk.elim
        · split at hk
          · exact ⟨hk, by trivial⟩
          · exact hk.elim
        · exact hk.elim
      · exact hk.elim
    · exact hk.elim
  case index =>
    unfold indexP at hk ⊢
    split at hk
    · split at hk
      · split at hk
        · refine ⟨hk.1, ?_⟩
          have hk := hk.2
          split at hk
          · exact ⟨hk, by trivial⟩
          · exact hk.elim
        · exact hk.elim
      · obtain ⟨b, h1, h2⟩ := hk
        exact ⟨b, h1, h2, by trivial⟩
      · exact hk.elim
    · exact hk.elim
  case indexAddr =>
    split at hk
    · split at hk
      · split at hk
        · exact cond_mono (fun ⟨cs, h1, h2⟩ => ⟨cs, h1, h2, by trivial⟩) hk
        · exact hk.elim
      · split at hk
        · exact cond_mono (fun hk => ⟨hk.1, hk.2, by trivial⟩) hk
        · exact hk.elim
      · split at hk
        · exact ⟨hk.1, hk.2, by trivial⟩
        · exact hk.elim
      · split at hk
        · exact ⟨hk.1, hk.2, by trivial⟩
        · exact hk.elim
      · exact hk.elim
    · exact hk.elim
  case binOp =>
    split at hk
    · exact cond_mono (fun hk => ⟨hk.1, hk.2, by trivial⟩) hk
    · exact cond_mono (fun hk => ⟨hk.1, hk.2, by trivial⟩) hk
    · exact ⟨hk.1, hk.2, by trivial⟩
    · exact ⟨hk.1, hk.2, by trivial⟩
    · split at hk
      · exact ⟨hk, by trivial⟩
      · exact hk.elim
  all_goals
    split at hk
    · exact ⟨hk, by trivial⟩
    · exact hk.elim

theorem buildSlice_heap {T : Nat → Option TI} {t n : Nat} {ps : List (Nat × V)} {h : Heap} {J : V → Prop} (hk : buildSliceP T t n ps [] fun v _ => cond (isPsl v) (J v) False) : buildSliceP T t n ps h fun v h' => isPsl v = true ∧ J v ∧ h' = h := by
  unfold buildSliceP at hk ⊢
  split at hk
  · split at hk
    · split at hk
      · split at hk
        · simp only [fl2_eq, fll_eq] at hk ⊢
          generalize Nat.ble _ _ = b1 at hk ⊢
          cases b1
          · exact hk
          · simp only [cond_true] at hk ⊢
            generalize List.all _ _ = b2 at hk ⊢
            cases b2
            · exact hk.elim
            · exact ⟨rfl, hk, by trivial⟩
        · exact hk.elim
      · exact hk.elim
    · exact hk.elim
  · exact hk.elim

def applyW (h : Heap) (wr : List (Nat × Blk)) : Heap := wr.foldl (fun h p => h.set p.1 (some p.2)) h

section
variable {P : Program} {T : Nat → Option TI} (hT : TOk P T) {φ : Phi} {μ : Mu} {B : Nat} {h : Heap} {w : World} (hB : B ≤ w.heap.size) (r : Rel φ μ B h w) {a : Act} {ev : Operand → V} (he : ∀ x, Rv φ μ (ev x) (a.eval x)) (Q : Exit → Act → World → Prop)
include hT r he hB

/-- Its soundness: the place of a new block is free. -/
theorem opQ_ok (o : Oper) {nid : Nat} (hnid : nid < h.length) (hfree : μ nid = none) {v : V} {wr : List (Nat × Blk)} {acc : List Nat} (hk : opQ P T ev h nid (fun v' wr' acc' => v' = v ∧ wr' = wr ∧ acc' = acc) o.op) :
    o.wp P a w (fun a' w' => ∃ cv, a' = a.put o.dst cv ∧ ∃ φ' μ', Rv φ' μ' v cv ∧ Rel φ' μ' B (applyW h wr) w' ∧ Ext φ μ w φ' μ' ∧ Fr μ w w' ∧ (∀ i, μ' i ≠ μ i → i = nid ∧ ∃ k, (nid, k) ∈ wr)) Q := by
  have fromH : ∀ {J : V → Heap → Prop}, (∀ v' h', J v' h' → v' = v ∧ h' = applyW h wr) → o.wp P a w (fun a' w' => ∃ cv, a' = a.put o.dst cv ∧ DoneH φ μ B w J cv w') Q →
      o.wp P a w (fun a' w' => ∃ cv, a' = a.put o.dst cv ∧ ∃ φ' μ', Rv φ' μ' v cv ∧ Rel φ' μ' B (applyW h wr) w' ∧ Ext φ μ w φ' μ' ∧ Fr μ w w' ∧ (∀ i, μ' i ≠ μ i → i = nid ∧ ∃ k, (nid, k) ∈ wr)) Q := fun hJ hwp =>
    Oper.wp_mono (fun a' w' ⟨cv, h1, v', h', φ', h2, h3, h4, h5, h6⟩ => by
      obtain ⟨rfl, rfl⟩ := hJ v' h' h2
      exact ⟨cv, h1, φ', μ, h3, h4, h5, h6, fun i hi => absurd rfl hi⟩) hwp
  have hrest : restOp o.op = true → opP P T ev [] (fun v' _ => v' = v ∧ [] = wr ∧ [] = acc) o.op → o.wp P a w (fun a' w' => ∃ cv, a' = a.put o.dst cv ∧ ∃ φ' μ', Rv φ' μ' v cv ∧ Rel φ' μ' B (applyW h wr) w' ∧ Ext φ μ w φ' μ' ∧ Fr μ w w' ∧ (∀ i, μ' i ≠ μ i → i = nid ∧ ∃ k, (nid, k) ∈ wr)) Q := fun hr hk => by
    have hk2 := rest_heap (h := h) o.op hr hk
    have hJ : ∀ v' h', ((v' = v ∧ [] = wr ∧ [] = acc) ∧ h' = h) → v' = v ∧ h' = applyW h wr := fun v' h' ⟨⟨e1, e2, _⟩, e3⟩ => ⟨e1, by rw [← e2, e3]; rfl⟩
    refine fromH hJ ?_
    cases ho : o.op <;> rw [ho] at hr hk2 <;> simp only [restOp, Bool.false_eq_true] at hr
    case indexAddr t x i => exact op_indexAddr hT r he Q o ho hk2
    case binOp op t x y ty => exact op_bin hT r he Q o ho hk2
    case slice t x lo hi mx => exact op_slice hT r he Q o ho hk2
    case index t x i => exact op_index hT r he Q o ho hk2
    case build t parts => exact op_build hT r he Q o ho hk2
    all_goals (refine op_pure hT r he Q o ?_; rw [ho]; exact hk2)
  have newB : ∀ (cs : List V) (c : Array Value) (e : TypeId), (execOp a.eval o).run P w = .ok (.value (.pointer (some ⟨w.heap.size, 0, none⟩))) (w.alloc (.cells c e)) → RvA φ μ cs c → V.ptr nid 0 = v → [(nid, Blk.cells cs)] = wr →
      o.wp P a w (fun a' w' => ∃ cv, a' = a.put o.dst cv ∧ ∃ φ' μ', Rv φ' μ' v cv ∧ Rel φ' μ' B (applyW h wr) w' ∧ Ext φ μ w φ' μ' ∧ Fr μ w w' ∧ (∀ i, μ' i ≠ μ i → i = nid ∧ ∃ k, (nid, k) ∈ wr)) Q := fun cs c e hx hc e1 e2 => by
    subst e1; subst e2
    have hmu : μ.le (μ.add nid w.heap.size none) := fun i x hi => .inl (by
      unfold Mu.add
      rw [if_neg (fun e => by rw [e, hfree] at hi; cases hi)]; exact hi)
    have hnone : hget h nid = none := by
      cases hq : hget h nid with
      | none => rfl
      | some k => obtain ⟨b, x, h1, _⟩ := r.blk nid k hq; rw [hfree] at h1; cases h1
    have rg : Rel φ μ B h (w.alloc (.cells c e)) := r.grow (by rw [alloc_size]; omega) (fun k hk => alloc_old w _ hk)
    refine wp_value Q hx ⟨φ, μ.add nid w.heap.size none, .ptr _ _ _ _ (by unfold Mu.add; rw [if_pos rfl]), ?_, ⟨φ.le_refl, hmu, fun i b x hi => ?_, fun _ _ _ h => .inl h⟩, Fr.alloc _ _ _, fun i hi => ?_⟩
    · refine ⟨rg.cell, rg.size, fun i j b p q hi hj => ?_, fun i b p hi => ?_, fun i k' hk' => ?_⟩
      · unfold Mu.add at hi hj
        split at hi <;> split at hj
        · omega
        · simp at hi; obtain ⟨rfl, _⟩ := hi; have := (r.dom j _ _ hj).2.1; omega
        · simp at hj; obtain ⟨rfl, _⟩ := hj; have := (r.dom i _ _ hi).2.1; omega
        · exact r.inj i j b p q hi hj
      · unfold Mu.add at hi
        rw [alloc_size]
        simp only [applyW, List.foldl_cons, List.foldl_nil, List.length_set]
        split at hi
        · rename_i he; subst he; simp at hi; obtain ⟨rfl, _⟩ := hi; omega
        · have := r.dom i b p hi; omega
      · simp only [applyW, List.foldl_cons, List.foldl_nil] at hk'
        rw [hget_set] at hk'
        split at hk'
        · rename_i hh
          obtain ⟨rfl, _⟩ := hh
          simp only [Option.some.injEq] at hk'
          subst hk'
          exact ⟨w.heap.size, none, by unfold Mu.add; rw [if_pos rfl], rfl, c, e, alloc_new w _, hc.1.symm, fun j hj => (hc.2 j hj).mono φ.le_refl hmu, phi_fresh r⟩
        · obtain ⟨b, p, h1, h2⟩ := rg.blk i k' hk'
          have hne : i ≠ nid := fun e => by rw [e, hfree] at h1; cases h1
          exact ⟨b, p, by unfold Mu.add; rw [if_neg hne]; exact h1, h2.mono φ.le_refl hmu rfl (fun _ _ h => h)⟩
    · unfold Mu.add at hi
      split at hi
      · simp at hi; obtain ⟨rfl, _⟩ := hi; exact .inr (Nat.le_refl _)
      · exact .inl ⟨_, hi⟩
    · have : i = nid := by
        rcases Nat.decEq i nid with h' | h'
        · exfalso; apply hi; unfold Mu.add; rw [if_neg h']
        · exact h'
      exact ⟨this, _, List.mem_singleton.2 rfl⟩
  cases ho : o.op
  case alloc t =>
    rw [ho] at hk
    simp only [opQ] at hk
    split at hk
    · rename_i ti hti
      obtain ⟨i, d, z, k⟩ := hT t ti hti
      split at hk
      · rename_i cs hcs
        refine newB cs z.cells t ?_ (cellsOf_ok (k.zrv φ μ) hcs) hk.1 hk.2.1
        unfold execOp
        simp only [ho, Instr.alloc, run_zeroValue k.info k.zero, newVar, newRow, run_newObj', Sem.run_bind, Sem.run_pure, Result.andThen_ok]
      · cases hk
    · cases hk
  case box t x =>
    rw [ho] at hk
    simp only [opQ] at hk
    split at hk
    · rename_i cs hcs
      refine newB cs (a.eval x).cells t ?_ (cellsOf_ok (he x) hcs) hk.1 hk.2.1
      unfold execOp
      simp only [ho, Instr.box, newVar, newRow, run_newObj', Sem.run_bind, Sem.run_pure, Result.andThen_ok]
    · cases hk
  case load t x =>
    rw [ho] at hk
    simp only [opQ] at hk
    refine fromH (J := fun v' h' => v' = v ∧ h' = applyW h wr) (fun _ _ h => h) (op_load hT r he Q o ho ?_)
    simp only [opP]
    split at hk
    · rename_i i q hx
      split at hk
      · rename_i cs hh
        split at hk
        · rename_i v' hv
          simp only [hx, hh, hv]
          exact ⟨hk.1, by rw [← hk.2.1]; rfl⟩
        · exact hk.elim
      · exact hk.elim
    · rename_i cs hx
      split at hk
      · rename_i v' hv
        simp only [hx, hv]
        exact ⟨hk.1, by rw [← hk.2.1]; rfl⟩
      · exact hk.elim
    · exact hk.elim
  case store t x y =>
    rw [ho] at hk
    simp only [opQ] at hk
    refine fromH (J := fun v' h' => v' = v ∧ h' = applyW h wr) (fun _ _ h => h) (op_store hT r he Q o ho ?_)
    simp only [opP]
    split at hk
    · rename_i i q hx
      split at hk
      · rename_i cs ti vs h1 h2 h3
        simp only [hx, h1, h2, h3]
        exact cond_mono (fun hk => ⟨hk.1, by rw [← hk.2.1]; rfl⟩) hk
      · exact hk.elim
    · exact hk.elim
  case call c =>
    rw [ho] at hk
    simp only [opQ] at hk
    split at hk
    · exact hk.elim
    · rename_i f hf
      have hfv := he f
      generalize hcf : a.eval f = cf at hfv
      split at hk
      · rename_i g first caps hef
        rw [hef] at hfv
        rw [fl2_eq] at hk
        obtain ⟨v', hF, rfl, rfl, rfl⟩ := hk
        cases hfv with
        | fn _ _ _ _ c1 c2 l1 l2 h1 h2 =>
          have hA : RvL φ μ (first ++ (c.args.toList.map ev) ++ caps) (c1 ++ c.args.map a.eval ++ c2) :=
            (RvL_append (RvL_append ⟨l1, h1⟩ ⟨(evL he c.args).1, (evL he c.args).2⟩) ⟨l2, h2⟩).toL
          have hcalls := hF.callH φ μ B w _ h hB r hA
          have hrun : (execOp a.eval o).run P w = .ok (.enter g (c1 ++ c.args.map a.eval ++ c2)) w := by
            unfold execOp
            simp only [ho, resolve, hf, hcf, Deferred.ofValue, Sem.run_bind, Sem.run_pure, Result.andThen_ok, invoke]
            exact callFunc_enter hF.run.body
          unfold Oper.wp
          rw [hrun, Oper.upon_enter]
          refine hcalls.mono fun e w' he' => ?_
          obtain ⟨φ', cv, rfl, hv, hr, hx, hfr⟩ := he'
          exact ⟨cv, rfl, φ', μ, hv, hr, hx, hfr, fun i hi => absurd rfl hi⟩
      · exact hk.elim
    · rename_i b _ hb
      split at hk
      · rename_i v' hv'
        refine fromH (J := fun v' h' => v' = v ∧ h' = applyW h wr) (fun _ _ h => h) (op_pure hT r he Q o ?_)
        rw [ho]
        simp only [pureOp, hb, hv']
        exact ⟨hk.1, by rw [← hk.2.1]; rfl⟩
      · exact hk.elim
    · exact hk.elim
  case buildSlice t n parts =>
    rw [ho] at hk
    simp only [opQ] at hk
    have hk2 := buildSlice_heap (h := h) hk
    refine fromH (J := fun v' h' => isPsl v' = true ∧ (v' = v ∧ [] = wr ∧ [] = acc) ∧ h' = h) (fun v' h' ⟨_, ⟨e1, e2, _⟩, e3⟩ => ⟨e1, by rw [← e2, e3]; rfl⟩) (Oper.wp_mono (fun a' w' ⟨cv, h1, h2⟩ => ⟨cv, h1, ?_⟩) (op_buildSlice (K := fun v' h' => isPsl v' = true ∧ (v' = v ∧ [] = wr ∧ [] = acc) ∧ h' = h) hT hB r he Q o ho hk2))
    rcases h2 with h2 | ⟨⟨id, sz, oo, n', c, h', h3, _⟩, _⟩
    · exact h2
    · cases h3
  all_goals exact hrest (by rw [ho]; rfl) (by rw [ho] at hk ⊢; exact hk)
end
end Go.Cv
