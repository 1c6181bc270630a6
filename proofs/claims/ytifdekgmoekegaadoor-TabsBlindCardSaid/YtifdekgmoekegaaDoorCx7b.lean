/- A calculus for calls of the program: canonical values and heaps, and what each operation, loop and call does to them; no condition on the program. -/
import Derived.Test.YtifdekgmoekegaaDoorCx7
namespace Go.Cx
open Go.RowKit

def applyW (h : Heap) (wr : List (Nat × Blk)) : Heap := wr.foldl (fun h p => h.set p.1 (some p.2)) h

/-- What stands behind an operation. -/
def OutR (φ : Phi) (μ : Mu) (B : Nat) (h : Heap) (w : World) (nid : Nat) (out : Out) (cv : Value) (w' : World) : Prop :=
  ∃ φ' μ', Rv φ' μ' out.v cv ∧ Rel φ' μ' B (applyW h out.wr) w' ∧ Ext φ μ w φ' μ' ∧ Fr μ w w' ∧ ∀ i, μ' i ≠ μ i → (∃ k, (i, k) ∈ out.wr) ∧ ((nid ≤ i ∧ i < nid + out.nw) ∨ μ i ≠ none)

def Ran (P : Program) (ρ : Operand → Value) (o : Oper) (w : World) (cv : Value) (w' : World) : Prop :=
  (execOp ρ o).run P w = .ok (.value cv) w' ∨ ((execOp ρ o).run P w = .ok .skip w' ∧ cv = Go.undef)

theorem ad_eq (b o q : Nat) : (⟨b, o, none⟩ : Addr).add q = ⟨b, o + q, none⟩ := by
  simp only [Addr.add]; split <;> simp_all

theorem Fr.ofDrawn {μ : Mu} {w w' : World} {n : Nat} (h : Fr μ { w with drawn := n } w') : Fr μ w w' := ⟨h.os, h.tape, h.output, h.size, h.block, h.loops⟩
theorem Ext.ofDrawn {φ φ' : Phi} {μ μ' : Mu} {w : World} {n : Nat} (h : Ext φ μ { w with drawn := n } φ' μ') : Ext φ μ w φ' μ' := ⟨h.phi, h.mu, h.fresh, h.cells⟩

section
variable {φ : Phi} {μ : Mu} {B : Nat} {h : Heap} {w : World}

/-- Nothing changes. -/
theorem OutR.same (r : Rel φ μ B h w) {nid : Nat} {out : Out} {cv : Value} (hv : Rv φ μ out.v cv) (hw : out.wr = []) : OutR φ μ B h w nid out cv w :=
  ⟨φ, μ, hv, by rw [hw]; exact r, Ext.refl _ _ _, Fr.refl _ _, fun i hi => absurd rfl hi⟩

theorem OutR.new (r : Rel φ μ B h w) (hB : B ≤ w.heap.size) {nid : Nat} {out : Out} {cv : Value} {k : Blk} {x : Option Nat} {o : Obj} (hnid : nid < h.length) (hfree : μ nid = none) (hw : out.wr = [(nid, k)]) (hn : out.nw = 1)
    (hk : BlkR φ (μ.add nid w.heap.size x) w.heap.size x (w.alloc o) k) (hv : Rv φ (μ.add nid w.heap.size x) out.v cv) : OutR φ μ B h w nid out cv (w.alloc o) := by
  obtain ⟨h1, h2⟩ := r.newAt hB hnid hfree o k x hk
  refine ⟨φ, _, hv, by rw [hw]; exact h1, h2, Fr.alloc _ _ _, fun i hi => ?_⟩
  have : i = nid := by
    rcases Nat.decEq i nid with h' | h'
    · exfalso; apply hi; unfold Mu.add; rw [if_neg h']
    · exact h'
  subst this
  exact ⟨⟨k, by rw [hw]; exact List.mem_singleton.2 rfl⟩, .inl ⟨Nat.le_refl _, by rw [hn]; omega⟩⟩

theorem blk_cells (r : Rel φ μ B h w) {nid : Nat} (hfree : μ nid = none) {cs : List V} {c : Array Value} {e : TypeId} (hc : RvA φ μ cs c) : BlkR φ (μ.add nid w.heap.size none) w.heap.size none (w.alloc (.cells c e)) (.cells e cs) :=
  ⟨rfl, c, alloc_new w _, hc.1.symm, fun j hj => (hc.2 j hj).mono φ.le_refl (Mu.add_le hfree), phi_fresh r⟩

theorem OutR.cells (r : Rel φ μ B h w) (hB : B ≤ w.heap.size) {nid : Nat} {out : Out} {cv : Value} {cs : List V} {c : Array Value} {e : TypeId} (hnid : nid < h.length) (hfree : μ nid = none) (hw : out.wr = [(nid, .cells e cs)]) (hn : out.nw = 1)
    (hc : RvA φ μ cs c) (hv : Rv φ (μ.add nid w.heap.size none) out.v cv) : OutR φ μ B h w nid out cv (w.alloc (.cells c e)) :=
  OutR.new r hB hnid hfree hw hn (blk_cells r hfree hc) hv

/-- Into cells. -/
theorem OutR.store (r : Rel φ μ B h w) {nid i b : Nat} {out : Out} {cv : Value} {e : TypeId} {cs cs' : List V} (hi : hget h i = some (.cells e cs)) (hb : μ i = some (b, none)) {c c' : Array Value}
    (hc : w.heap[b]? = some (.cells c e (0, 0))) (hs : c'.size = c.size) (hr : RvA φ μ cs' c') (hw : out.wr = [(i, .cells e cs')]) (hv : Rv φ μ out.v cv) : OutR φ μ B h w nid out cv (w.setRow b c') :=
  ⟨φ, μ, hv, by rw [hw]; exact r.storeRow hi hb hc hs hr, Ext.refl _ _ _, Fr.setRow hb _, fun i hi => absurd rfl hi⟩

theorem OutR.storeG (r : Rel φ μ B h w) {nid i b ver ver' sz : Nat} {out : Out} {cv : Value} {e : TypeId} {cs cs' : List V} (hi : hget h i = some (.grow ver e sz cs)) (hb : μ i = some (b, some ver)) (hver : ver ≤ ver') {c c' : Array Value}
    (hc : w.heap[b]? = some (.cells c e (0, 0))) (hs : c'.size = c.size) (hl : cs'.length ≤ c'.size) (hr : ∀ j, j < cs'.length → Rv φ μ (cs'.getD j .undef) (c'.getD j Go.undef)) (hw : out.wr = [(i, .grow ver' e sz cs')])
    (hv : Rv φ (μ.add i b (some ver')) out.v cv) : OutR φ μ B h w nid out cv (w.setRow b c') := by
  obtain ⟨h1, h2⟩ := r.storeGrow hi hb hver hc hs hl hr
  refine ⟨φ, _, hv, by rw [hw]; exact h1, h2, Fr.setRow hb _, fun j hj => ?_⟩
  have : j = i := by
    rcases Nat.decEq j i with h' | h'
    · exfalso; apply hj; unfold Mu.add; rw [if_neg h']
    · exact h'
  subst this
  exact ⟨⟨_, by rw [hw]; exact List.mem_singleton.2 rfl⟩, .inr (by rw [hb]; simp)⟩

theorem OutR.drawn {nid : Nat} {out : Out} {cv : Value} {w' : World} {n : Nat} (h' : OutR φ μ B h { w with drawn := n } nid out cv w') : OutR φ μ B h w nid out cv w' := by
  obtain ⟨φ', μ', h1, h2, h3, h4, h5⟩ := h'
  exact ⟨φ', μ', h1, h2, h3.ofDrawn, h4.ofDrawn, h5⟩

theorem hget_cells (r : Rel φ μ B h w) {i b : Nat} {e : TypeId} {cs : List V} (hi : hget h i = some (.cells e cs)) (hb : μ i = some (b, none)) : ∃ c, w.heap[b]? = some (.cells c e (0, 0)) ∧ RvA φ μ cs c := by
  obtain ⟨b', x', hb', h0, c, h1, h2, h3, h4⟩ := r.blk i _ hi
  rw [hb] at hb'
  simp only [Option.some.injEq, Prod.mk.injEq] at hb'
  obtain ⟨rfl, _⟩ := hb'
  exact ⟨c, h1, h2.symm, h3⟩

theorem hget_grow (r : Rel φ μ B h w) {i b ver ver' sz : Nat} {e : TypeId} {cs : List V} (hi : hget h i = some (.grow ver e sz cs)) (hb : μ i = some (b, some ver')) : ver' = ver ∧ ∃ c, w.heap[b]? = some (.cells c e (0, 0)) ∧ cs.length ≤ c.size ∧ φ.size b = some c.size ∧ (∀ j, j < cs.length → Rv φ μ (cs.getD j .undef) (c.getD j Go.undef)) := by
  obtain ⟨b', x', hb', h0, c, h1, h2, h3, h4, h5⟩ := r.blk i _ hi
  rw [hb] at hb'
  simp only [Option.some.injEq, Prod.mk.injEq] at hb'
  obtain ⟨rfl, rfl⟩ := hb'
  simp only [Option.some.injEq] at h0
  exact ⟨h0, c, h1, h2, h3, h4⟩

theorem grow_num (r : Rel φ μ B h w) {i ver sz : Nat} {e : TypeId} {cs : List V} (hi : hget h i = some (.grow ver e sz cs)) : ∃ b, μ i = some (b, some ver) := by
  obtain ⟨b', x', hb', h0, _⟩ := r.blk i _ hi
  exact ⟨b', by rw [hb', h0]⟩
end

/-- As setL_rvA, where only the first cells are known. -/
theorem setL_take {φ : Phi} {μ : Mu} {cs : List V} {c : Array Value} (hl0 : cs.length ≤ c.size) (h : ∀ j, j < cs.length → Rv φ μ (cs.getD j .undef) (c.getD j Go.undef)) {o : Nat} {vs : List V} {us : List Value} (hl : vs.length = us.length)
    (hv : ∀ j, j < vs.length → Rv φ μ (vs.getD j .undef) (us.getD j Go.undef)) (ho : o + vs.length ≤ cs.length) :
    ∀ j, j < (setL cs o vs).length → Rv φ μ ((setL cs o vs).getD j .undef) ((c.toList.take o ++ us ++ c.toList.drop (o + us.length)).toArray.getD j Go.undef) := fun j hj => by
  rw [setL_length ho] at hj
  have e2 : ∀ (x : List Value), x.toArray.getD j Go.undef = x.getD j Go.undef := fun x => by simp
  rw [e2]
  unfold setL
  by_cases h1 : j < o
  · have a1 : (cs.take o ++ vs ++ cs.drop (o + vs.length)).getD j .undef = cs.getD j .undef := by
      rw [List.getD_eq_getElem?_getD, List.getElem?_append_left (by simp; omega), List.getElem?_append_left (by simp; omega), List.getElem?_take_of_lt h1, List.getD_eq_getElem?_getD]
    have a2 : (c.toList.take o ++ us ++ c.toList.drop (o + us.length)).getD j Go.undef = c.getD j Go.undef := by
      rw [List.getD_eq_getElem?_getD, List.getElem?_append_left (by simp; omega), List.getElem?_append_left (by simp; omega), List.getElem?_take_of_lt h1]
      simp
    rw [a1, a2]; exact h j hj
  · by_cases h2 : j < o + vs.length
    · have a1 : (cs.take o ++ vs ++ cs.drop (o + vs.length)).getD j .undef = vs.getD (j - o) .undef := by
        rw [List.getD_eq_getElem?_getD, List.getElem?_append_left (by simp; omega), List.getElem?_append_right (by simp; omega), List.getD_eq_getElem?_getD]
        congr 2; simp; omega
      have a2 : (c.toList.take o ++ us ++ c.toList.drop (o + us.length)).getD j Go.undef = us.getD (j - o) Go.undef := by
        rw [List.getD_eq_getElem?_getD, List.getElem?_append_left (by simp; omega), List.getElem?_append_right (by simp; omega), List.getD_eq_getElem?_getD]
        congr 2; simp; omega
      rw [a1, a2]; exact hv (j - o) (by omega)
    · have a1 : (cs.take o ++ vs ++ cs.drop (o + vs.length)).getD j .undef = cs.getD j .undef := by
        rw [List.getD_eq_getElem?_getD, List.getElem?_append_right (by simp; omega), List.getElem?_drop, List.getD_eq_getElem?_getD]
        congr 2; simp; omega
      have a2 : (c.toList.take o ++ us ++ c.toList.drop (o + us.length)).getD j Go.undef = c.getD j Go.undef := by
        rw [List.getD_eq_getElem?_getD, List.getElem?_append_right (by simp; omega), List.getElem?_drop]
        have : o + us.length + (j - (c.toList.take o ++ us).length) = j := by simp; omega
        rw [this]; simp
      rw [a1, a2]; exact h j hj

/-! ### A slice's cells -/
theorem flatten_getD {sz : Nat} : ∀ {xs : List (List V)}, (∀ i, i < xs.length → (xs.getD i []).length = sz) → xs.flatten.length = xs.length * sz ∧ ∀ i j, i < xs.length → j < sz → xs.flatten.getD (i * sz + j) .undef = (xs.getD i []).getD j .undef
  | [], _ => ⟨by simp, fun i j hi => by simp at hi⟩
  | x :: xs, h => by
    have hx := h 0 (by simp)
    simp only [List.getD_cons_zero] at hx
    obtain ⟨l, g⟩ := flatten_getD (xs := xs) (fun i hi => by have := h (i + 1) (by simp; omega); simpa using this)
    refine ⟨by simp only [List.flatten_cons, List.length_append, hx, l, List.length_cons]; rw [Nat.add_mul]; omega, fun i j hi hj => ?_⟩
    rw [List.flatten_cons]
    cases i with
    | zero =>
      rw [List.getD_eq_getElem?_getD, List.getElem?_append_left (by omega), ← List.getD_eq_getElem?_getD]
      simp
    | succ i =>
      have : (i + 1) * sz + j - x.length = i * sz + j := by rw [hx, Nat.add_mul]; omega
      rw [List.getD_eq_getElem?_getD, List.getElem?_append_right (by rw [hx, Nat.add_mul]; omega), this, ← List.getD_eq_getElem?_getD, g i j (by simp at hi; omega) hj]
      simp

structure ElR (P : Program) (φ : Phi) (μ : Mu) (w : World) (sz : Nat) (el : El) (cx : Value) (l : List Value) : Prop where
  len : Builtin.lenOf cx = pure el.n
  sl : l.length = el.n * sz
  rv : RvA φ μ el.vs l.toArray
  first : ∀ k w', k ≤ el.n → w'.heap = w.heap → (Builtin.firstCells sz k cx).run P w' = .ok (l.take (k * sz)).toArray w'

theorem first_of_cells {P : Program} {w : World} {b off sz n cap m : Nat} {l : List Value} (hl : l.length = n * sz) (hc : ∀ k, k < l.length → w.cell? ⟨b, off + k, none⟩ = some (l.getD k Go.undef)) {k : Nat} (hk : k ≤ n) {w' : World} (hw : w'.heap = w.heap) :
    (Builtin.firstCells sz k (.slice (some ⟨b, off, none⟩) m cap)).run P w' = .ok (l.take (k * sz)).toArray w' := by
  simp only [Builtin.firstCells]
  have hle : k * sz ≤ n * sz := Nat.mul_le_mul_right _ hk
  have hlen : (l.take (k * sz)).length = k * sz := by simp; omega
  have hrun := run_loadCells_list (P := P) w' ⟨b, off, none⟩ (l.take (k * sz)) (fun j v hv => ?_)
  · rw [hlen] at hrun; exact hrun
  obtain ⟨hj, hE⟩ := List.getElem?_eq_some_iff.1 hv
  have hjl : j < l.length := by omega
  have := hc j hjl
  rw [ad_eq]
  have e1 : w'.cell? ⟨b, off + j, none⟩ = w.cell? ⟨b, off + j, none⟩ := by simp only [World.cell?, hw]
  rw [e1, this, List.getD_eq_getElem?_getD, List.getElem?_eq_getElem hjl]
  simp at hE
  rw [← hE]; rfl

theorem extract_getD {c : Array Value} {o n k : Nat} (hk : k < n) (hc : o + n ≤ c.size) : (c.extract o (o + n)).toList.getD k Go.undef = c.getD (o + k) Go.undef := by
  have hmin : k < min (o + n) c.size - o := by omega
  have hko : o + k < c.size := by omega
  rw [List.getD_eq_getElem?_getD, Array.getElem?_toList, Array.getElem?_extract, if_pos hmin, Array.getD_eq_getD_getElem?]

theorem rdE_ok {P : Program} {φ : Phi} {μ : Mu} {B : Nat} {h : Heap} {w : World} (r : Rel φ μ B h w) {sz : Nat} {x : V} {cx : Value} (hx : Rv φ μ x cx) {el : El} (he : rdE (hget h) sz x = some el) (hok : el.ok = true) : ∃ l, ElR P φ μ w sz el cx l := by
  unfold rdE at he
  split at he
  · simp only [Option.some.injEq] at he; subst he
    cases hx
    exact ⟨[], rfl, by simp, ⟨rfl, fun j hj => by simp at hj⟩, fun k w' hk _ => by simp [Builtin.firstCells]⟩
  · rename_i s xs tk
    simp only [Option.some.injEq] at he; subst he
    have hs := Nat.eq_of_beq_eq_true hok
    subst hs
    cases hx with
    | psl0 _ _ aa cap =>
      refine ⟨[], rfl, by simp, ⟨rfl, fun j hj => by simp at hj⟩, fun k w' hk _ => ?_⟩
      simp at hk
      subst hk
      cases aa with
      | none => simp [Builtin.firstCells]
      | some ad => simp [Builtin.firstCells, loadCells, loadCellsFrom]
    | psl _ _ _ _ b off cap c c0 c1 c2 c3 c4 =>
      obtain ⟨l, hl, hc⟩ := flat_of_psl c1 c2 c3
      obtain ⟨f1, f2⟩ := flatten_getD c1
      refine ⟨l, rfl, hl.len, ⟨by rw [f1]; simp [hl.len], fun j hj => ?_⟩, fun k w' hk hw => first_of_cells hl.len (fun k hk => r.cell _ _ _ (hc k hk)) hk hw⟩
      rw [f1] at hj
      have hsz : 0 < s := by
        rcases Nat.eq_zero_or_pos s with h0 | h0
        · subst h0; simp at hj
        · exact h0
      have hi : j / s < xs.length := (Nat.div_lt_iff_lt_mul hsz).2 hj
      have e : j / s * s + j % s = j := by rw [Nat.mul_comm]; exact Nat.div_add_mod j s
      have h1 := f2 (j / s) (j % s) hi (Nat.mod_lt _ hsz)
      have h2 := hl.rv (j / s) (j % s) hi (Nat.mod_lt _ hsz)
      rw [e] at h1 h2
      rw [h1]
      have : l.toArray.getD j Go.undef = l.getD j Go.undef := by simp
      rw [this]
      exact h2.mono φ.le_refl (mu0_le μ)
  · rename_i id s o n cap
    split at he
    · rename_i e cs hh
      simp only [Option.some.injEq] at he; subst he
      simp only [Bool.and_eq_true] at hok
      obtain ⟨hs, hle⟩ := hok
      have hs := Nat.eq_of_beq_eq_true hs
      subst hs
      have hle := Nat.le_of_ble_eq_true hle
      cases hx with
      | lsl _ _ _ _ _ _ b hb hcap =>
        obtain ⟨c, h1, h2⟩ := hget_cells r hh hb
        have hA := h2.extract o (n * s)
        have hcl : (c.extract o (o + n * s)).toList.length = n * s := by have := h2.1; simp; omega
        refine ⟨(c.extract o (o + n * s)).toList, rfl, hcl, by rw [Array.toArray_toList]; exact hA, fun k w' hk hw => first_of_cells hcl (fun k hk => ?_) hk hw⟩
        have hko : o + k < c.size := by have := h2.1; omega
        rw [hcl] at hk
        rw [cell_heap h1, extract_getD hk (by have := h2.1; omega), Array.getD_eq_getD_getElem?, Array.getElem?_eq_getElem hko]
        rfl
    · cases he
  · rename_i id s o n lo ex ver
    split at he
    · rename_i ver' e0 s0 cs hh
      simp only [Option.some.injEq] at he; subst he
      simp only [Bool.and_eq_true] at hok
      obtain ⟨⟨hs, hv⟩, hle⟩ := hok
      have hs := Nat.eq_of_beq_eq_true hs
      have hv := Nat.eq_of_beq_eq_true hv
      subst hs; subst hv
      have hle := Nat.le_of_ble_eq_true hle
      cases hx with
      | gsl _ _ _ _ _ _ _ _ b m cc a g1 g2 g3 g4 g5 g6 =>
        obtain ⟨rfl, c, h1, h2, h3, h4⟩ := hget_grow r hh g1
        obtain ⟨rfl, S, k1, k2⟩ := g6 rfl
        have hcl : (c.extract o (o + n * s)).toList.length = n * s := by simp; omega
        refine ⟨(c.extract o (o + n * s)).toList, rfl, hcl, ⟨by simp; omega, fun j hj => ?_⟩, fun k w' hk hw => first_of_cells hcl (fun k hk => ?_) hk hw⟩
        · simp only [List.length_take, List.length_drop] at hj
          have hjn : j < n * s := by omega
          have e1 : ((cs.drop o).take (n * s)).getD j .undef = cs.getD (o + j) .undef := by simp [hjn, List.getElem?_drop]
          have e2 : ((c.extract o (o + n * s)).toList.toArray).getD j Go.undef = c.getD (o + j) Go.undef := by
            have := extract_getD (c := c) (o := o) (n := n * s) hjn (by omega)
            rw [← this]
            simp
          rw [e1, e2]
          exact h4 (o + j) (by omega)
        · rw [hcl] at hk
          have hko : o + k < c.size := by omega
          rw [cell_heap h1, extract_getD hk (by omega), Array.getD_eq_getD_getElem?, Array.getElem?_eq_getElem hko]
          rfl
    · cases he
  · rename_i s
    simp only [Option.some.injEq] at he; subst he
    have hs := Nat.eq_of_beq_eq_true hok
    subst hs
    cases hx
    refine ⟨s.data.toList.map fun b => .int .u8 b.toNat, rfl, by simp only [List.length_map, Array.length_toList, Nat.mul_one]; rfl, ⟨by simp, fun j hj => ?_⟩, fun k w' hk _ => ?_⟩
    · simp at hj
      have e1 : (s.data.toList.map fun b => V.int .u8 b.toNat).getD j .undef = .int .u8 s.data[j].toNat := by simp [hj]
      have e2 : ((s.data.toList.map fun b => Value.int .u8 b.toNat).toArray).getD j Go.undef = .int .u8 s.data[j].toNat := by simp [hj]
      rw [e1, e2]; exact .int _ _ _
    · simp only [Builtin.firstCells, Sem.run_pure, Nat.mul_one]
      congr 1
      apply Array.ext'
      simp [ByteArray.data_extract, ← List.map_take]
  · cases he

end Go.Cx
