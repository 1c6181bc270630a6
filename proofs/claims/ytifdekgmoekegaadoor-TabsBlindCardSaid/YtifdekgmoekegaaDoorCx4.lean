/- A calculus for calls of the program: canonical values and heaps, and what each operation, loop and call does to them; no condition on the program. -/
import Derived.Test.YtifdekgmoekegaaDoorCx3
import Derived.Laws.CopyRow
namespace Go.Cx
open Go.RowKit

theorem BlkR.mono {φ φ' : Phi} {μ μ' : Mu} {b : Nat} {x : Option Nat} {w w' : World} {k : Blk} (hφ : φ.le φ') (hμ : μ.le μ') (hw : w'.heap[b]? = w.heap[b]?) (hc : ∀ o v, φ'.cell b o = some v → φ.cell b o = some v) (h : BlkR φ μ b x w k) : BlkR φ' μ' b x w' k := by
  have hn : ∀ o, φ.cell b o = none → φ'.cell b o = none := fun o h0 => by
    cases hq : φ'.cell b o with
    | none => rfl
    | some v => rw [hc o v hq] at h0; cases h0
  cases k with
  | cells e cs =>
    obtain ⟨h0, c, h1, h2, h3, h4⟩ := h
    exact ⟨h0, c, hw.trans h1, h2, fun j hj => (h3 j hj).mono hφ hμ, fun o => hn o (h4 o)⟩
  | token sz n =>
    obtain ⟨h0, c, e, h1, h2, h3⟩ := h
    exact ⟨h0, c, e, hw.trans h1, hφ.size _ _ h2, fun o ho => hn o (h3 o ho)⟩
  | grow ver e sz cs =>
    obtain ⟨h0, c, h1, h2, h3, h4, h5⟩ := h
    exact ⟨h0, c, hw.trans h1, h2, hφ.size _ _ h3, fun j hj => (h4 j hj).mono hφ hμ, fun o => hn o (h5 o)⟩
  | dead => trivial
  | siter s pos => exact ⟨h.1, hw.trans h.2⟩
  | miter mid since seen last =>
    obtain ⟨h0, bm, h1, h2⟩ := h
    exact ⟨h0, bm, Mu.le_plain hμ h1, hw.trans h2⟩
  | map es clock =>
    obtain ⟨h0, c, h1, h2, h3⟩ := h
    exact ⟨h0, c, hw.trans h1, h2, fun j x y hx hy => ⟨(h3 j x y hx hy).1.mono hφ hμ, (h3 j x y hx hy).2.1.mono hφ hμ, (h3 j x y hx hy).2.2⟩⟩
  | mapc es clock =>
    obtain ⟨h0, c, fs, h1, h2, h3, h4⟩ := h
    exact ⟨h0, c, fs, hw.trans h1, h2, fun j x y hx hy => ⟨(h3 j x y hx hy).1.mono hφ hμ, (h3 j x y hx hy).2.1.mono hφ hμ, (h3 j x y hx hy).2.2⟩, h4⟩
  | loop env ps assign body st pend =>
    obtain ⟨h0, fn, t, d, h1, h2, h3⟩ := h
    exact ⟨h0, fn, t, d, hw.trans h1, h2, fun j hj => (h3 j hj).mono hφ hμ⟩

theorem cell_block {w : World} {b o : Nat} {v : Value} (h : w.cell? ⟨b, o, none⟩ = some v) : b < w.heap.size := by
  rcases Nat.lt_or_ge b w.heap.size with h' | h'
  · exact h'
  · unfold World.cell? at h
    simp only [Array.getElem?_eq_none h'] at h
    cases h

theorem size_block {φ : Phi} {μ : Mu} {B : Nat} {h : Heap} {w : World} (r : Rel φ μ B h w) {b n : Nat} (hs : φ.size b = some n) : b < w.heap.size := by
  obtain ⟨c, e, fr, hc, _⟩ := r.size b n hs
  exact (Array.getElem?_eq_some_iff.1 hc).1

/-- The world grows, what was stays. -/
theorem Rel.grow {φ : Phi} {μ : Mu} {B : Nat} {h : Heap} {w w' : World} (r : Rel φ μ B h w) (hs : w.heap.size ≤ w'.heap.size) (hb : ∀ k, k < w.heap.size → w'.heap[k]? = w.heap[k]?) : Rel φ μ B h w' := by
  refine ⟨r.glob, fun b o v hv => ?_, fun b n hn => ?_, r.inj, fun i b x hi => ?_, fun i k hk => ?_⟩
  · have := r.cell b o v hv
    rw [← this]
    exact World.cell?_of_block (hb b (cell_block this))
  · obtain ⟨c, e, fr, h1, h2⟩ := r.size b n hn
    exact ⟨c, e, fr, (hb b (size_block r hn)).trans h1, h2⟩
  · have := r.dom i b x hi
    exact ⟨this.1, by omega, this.2.2⟩
  · obtain ⟨b, x, h1, h2⟩ := r.blk i k hk
    exact ⟨b, x, h1, h2.mono φ.le_refl (Mu.le_refl _) (hb b (r.dom i b x h1).2.1) (fun _ _ h => h)⟩

theorem Rel.below {φ : Phi} {μ : Mu} {B : Nat} {h : Heap} {w w' : World} (r : Rel φ μ B h w) (hb : Below w.heap.size w w') : Rel φ μ B h w' :=
  r.grow hb.size hb.block

/-! ### New blocks -/
def Mu.add (μ : Mu) (i b : Nat) (x : Option Nat) : Mu := fun j => if j = i then some (b, x) else μ j

theorem alloc_old (w : World) (o : Obj) {k : Nat} (h : k < w.heap.size) : (w.alloc o).heap[k]? = w.heap[k]? := by
  show (w.heap.push o)[k]? = _
  rw [Array.getElem?_push, if_neg (by omega)]
theorem alloc_new (w : World) (o : Obj) : (w.alloc o).heap[w.heap.size]? = some o := by
  show (w.heap.push o)[w.heap.size]? = _
  rw [Array.getElem?_push, if_pos rfl]
theorem alloc_size (w : World) (o : Obj) : (w.alloc o).heap.size = w.heap.size + 1 := by
  show (w.heap.push o).size = _
  simp

theorem Fr.alloc (μ : Mu) (w : World) (o : Obj) : Fr μ w (w.alloc o) :=
  ⟨rfl, rfl, rfl, by rw [alloc_size]; omega, fun k hk _ => alloc_old w o hk, fun k r hk => ⟨r, (alloc_old w o (Array.getElem?_eq_some_iff.1 hk).1).trans hk⟩⟩

theorem hget_push (h : Heap) (x : Option Blk) (i : Nat) : hget (h ++ [x]) i = if i = h.length then x else hget h i := by
  unfold hget
  rw [List.getElem?_append]
  by_cases hi : i < h.length
  · rw [if_pos hi, if_neg (by omega)]
  · rw [if_neg hi]
    by_cases he : i = h.length
    · subst he; simp
    · rw [if_neg he]
      have h1 : h[i]? = none := List.getElem?_eq_none (by omega)
      have h2 : [x][i - h.length]? = none := List.getElem?_eq_none (by simp; omega)
      rw [h1, h2]

theorem Ext.alloc {φ : Phi} {μ : Mu} {B : Nat} {h : Heap} {w : World} {x : Option Nat} (r : Rel φ μ B h w) : Ext φ μ w φ (μ.add h.length w.heap.size x) := by
  refine ⟨φ.le_refl, fun i y hi => .inl ?_, fun i b y hi => ?_, fun _ _ _ h => .inl h⟩
  · unfold Mu.add
    rw [if_neg (by have := (r.dom i y.1 y.2 hi).1; omega)]
    exact hi
  · unfold Mu.add at hi
    split at hi
    · simp at hi; obtain ⟨rfl, _⟩ := hi; exact .inr (Nat.le_refl _)
    · exact .inl ⟨_, hi⟩

theorem Rel.allocB {φ : Phi} {μ : Mu} {B : Nat} {h : Heap} {w : World} (r : Rel φ μ B h w) (hB : B ≤ w.heap.size) (o : Obj) (k : Blk) (x : Option Nat)
    (hk : BlkR φ (μ.add h.length w.heap.size x) w.heap.size x (w.alloc o) k) : Rel φ (μ.add h.length w.heap.size x) B (h ++ [some k]) (w.alloc o) := by
  have rg : Rel φ μ B h (w.alloc o) := r.grow (by rw [alloc_size]; omega) (fun k hk => alloc_old w o hk)
  have ex := Ext.alloc (x := x) r
  refine ⟨r.glob, rg.cell, rg.size, fun i j b p q hi hj => ?_, fun i b p hi => ?_, fun i k' hk' => ?_⟩
  · unfold Mu.add at hi hj
    split at hi <;> split at hj
    · omega
    · simp at hi; obtain ⟨rfl, _⟩ := hi; have := (r.dom j _ _ hj).2.1; omega
    · simp at hj; obtain ⟨rfl, _⟩ := hj; have := (r.dom i _ _ hi).2.1; omega
    · exact r.inj i j b p q hi hj
  · unfold Mu.add at hi
    rw [alloc_size, List.length_append]
    split at hi
    · simp at hi; obtain ⟨rfl, _⟩ := hi; simp; omega
    · have := r.dom i b p hi; exact ⟨by simp; omega, by omega, this.2.2⟩
  · rw [hget_push] at hk'
    split at hk'
    · rename_i he
      simp only [Option.some.injEq] at hk'
      subst hk'
      exact ⟨w.heap.size, x, by unfold Mu.add; rw [if_pos he], hk⟩
    · obtain ⟨b, p, h1, h2⟩ := rg.blk i k' hk'
      have hne : i ≠ h.length := fun e => by have := (rg.dom i b p h1).1; omega
      exact ⟨b, p, by unfold Mu.add; rw [if_neg hne]; exact h1, h2.mono φ.le_refl ex.mu rfl (fun _ _ h => h)⟩

theorem phi_fresh {φ : Phi} {μ : Mu} {B : Nat} {h : Heap} {w : World} (r : Rel φ μ B h w) (o : Nat) : φ.cell w.heap.size o = none := by
  cases hq : φ.cell w.heap.size o with
  | none => rfl
  | some v => have := cell_block (r.cell _ _ _ hq); omega

theorem Rel.allocCells {φ : Phi} {μ : Mu} {B : Nat} {h : Heap} {w : World} (r : Rel φ μ B h w) (hB : B ≤ w.heap.size) {cs : List V} {c : Array Value} (e : TypeId) (hc : RvA φ μ cs c) :
    Rel φ (μ.add h.length w.heap.size none) B (h ++ [some (.cells e cs)]) (w.alloc (.cells c e)) :=
  r.allocB hB _ _ none ⟨rfl, c, alloc_new w _, hc.1.symm, fun j hj => (hc.2 j hj).mono φ.le_refl (Ext.alloc r).mu, phi_fresh r⟩

/-- A block that never changes again. -/
def Phi.add (φ : Phi) (b : Nat) (c : Array Value) (h1 : ∀ v ∈ c, v.oneCell' = true) : Phi :=
  { cell := fun b' o => if b' = b then c[o]? else φ.cell b' o, size := φ.size,
    one := fun b' o v hv => by
      split at hv
      · exact h1 v (Array.mem_of_getElem? hv)
      · exact φ.one b' o v hv }

theorem Rel.allocPhi {φ : Phi} {μ : Mu} {B : Nat} {h : Heap} {w : World} (r : Rel φ μ B h w) (c : Array Value) (e : TypeId) (h1 : ∀ v ∈ c, v.oneCell' = true) :
    φ.le (φ.add w.heap.size c h1) ∧ Rel (φ.add w.heap.size c h1) μ B h (w.alloc (.cells c e)) := by
  have hle : φ.le (φ.add w.heap.size c h1) := by
    refine ⟨fun b o v hv => ?_, fun b n hn => hn⟩
    have := cell_block (r.cell _ _ _ hv)
    simp only [Phi.add]
    rw [if_neg (by omega)]
    exact hv
  have rg : Rel φ μ B h (w.alloc (.cells c e)) := r.grow (by rw [alloc_size]; omega) (fun k hk => alloc_old w _ hk)
  refine ⟨hle, fun g cs hg => (r.glob g cs hg).mono hle (Mu.le_refl _), fun b o v hv => ?_, rg.size, r.inj, rg.dom, fun i k hk => ?_⟩
  · simp only [Phi.add] at hv
    split at hv
    · rename_i he
      subst he
      unfold World.cell?
      rw [alloc_new]
      simpa using hv
    · exact rg.cell b o v hv
  · obtain ⟨b, x, h3, h2⟩ := rg.blk i k hk
    refine ⟨b, x, h3, h2.mono hle (Mu.le_refl _) rfl (fun o v hv => ?_)⟩
    simp only [Phi.add] at hv
    have := (r.dom i b x h3).2.1
    rwa [if_neg (by omega)] at hv

theorem Ext.phiAdd (φ : Phi) (μ : Mu) (w : World) (c : Array Value) (h1 : ∀ v ∈ c, v.oneCell' = true) (h : φ.le (φ.add w.heap.size c h1)) : Ext φ μ w (φ.add w.heap.size c h1) μ :=
  ⟨h, Mu.le_refl _, fun _ _ _ h => .inl ⟨_, h⟩, fun b o v hv => by
    simp only [Phi.add] at hv
    split at hv
    · rename_i e; exact .inr (.inl (by omega))
    · exact .inl hv⟩

/-! ### Stores -/
def setL (cs : List V) (o : Nat) (vs : List V) : List V := cs.take o ++ vs ++ cs.drop (o + vs.length)

theorem hget_set (h : Heap) (i j : Nat) (x : Option Blk) : hget (h.set i x) j = if i = j ∧ i < h.length then x else hget h j := by
  unfold hget
  rw [List.getElem?_set]
  by_cases hij : i = j
  · subst hij
    by_cases hl : i < h.length
    · simp [hl]
    · simp [hl]
  · simp [hij]

theorem setL_length {cs : List V} {o : Nat} {vs : List V} (h : o + vs.length ≤ cs.length) : (setL cs o vs).length = cs.length := by
  simp [setL]; omega

theorem setL_rvA {φ : Phi} {μ : Mu} {cs : List V} {c : Array Value} (h : RvA φ μ cs c) {o : Nat} {vs : List V} {us : List Value} (hl : vs.length = us.length) (hv : ∀ j, j < vs.length → Rv φ μ (vs.getD j .undef) (us.getD j Go.undef)) (ho : o + vs.length ≤ cs.length) :
    RvA φ μ (setL cs o vs) (c.toList.take o ++ us ++ c.toList.drop (o + us.length)).toArray := by
  have hlen := h.1
  refine ⟨by rw [setL_length ho]; simp; omega, fun j hj => ?_⟩
  rw [setL_length ho] at hj
  have e2 : ∀ (x : List Value), x.toArray.getD j Go.undef = x.getD j Go.undef := fun x => by simp
  rw [e2]
  unfold setL
  by_cases h1 : j < o
  · have a1 : (cs.take o ++ vs ++ cs.drop (o + vs.length)).getD j .undef = cs.getD j .undef := by
      rw [List.getD_eq_getElem?_getD, List.getElem?_append_left (by simp; omega), List.getElem?_append_left (by simp; omega), List.getElem?_take_of_lt h1, List.getD_eq_getElem?_getD]
    have a2 : (c.toList.take o ++ us ++ c.toList.drop (o + us.length)).getD j Go.undef = c.getD j Go.undef := by
      rw [List.getD_eq_getElem?_getD, List.getElem?_append_left (by simp; omega), List.getElem?_append_left (by simp; omega), List.getElem?_take_of_lt h1]
      simp
    rw [a1, a2]; exact h.2 j (by omega)
  · by_cases h2 : j < o + vs.length
    · have a1 : (cs.take o ++ vs ++ cs.drop (o + vs.length)).getD j .undef = vs.getD (j - o) .undef := by
        rw [List.getD_eq_getElem?_getD, List.getElem?_append_left (by simp; omega), List.getElem?_append_right (by simp; omega), List.getD_eq_getElem?_getD]
        congr 2; simp; omega
      have a2 : (c.toList.take o ++ us ++ c.toList.drop (o + us.length)).getD j Go.undef = us.getD (j - o) Go.undef := by
        rw [List.getD_eq_getElem?_getD, List.getElem?_append_left (by simp; omega), List.getElem?_append_right (by simp; omega), List.getD_eq_getElem?_getD]
        congr 2; simp; omega
      rw [a1, a2]; exact hv (j - o) (by omega)
    · have a1 : (cs.take o ++ vs ++ cs.drop (o + vs.length)).getD j .undef = cs.getD j .undef := by
        rw [List.getD_eq_getElem?_getD, List.getElem?_append_right (by simp; omega), List.getElem?_drop, List.getD_eq_getElem?_getD]
        congr 2; simp; omega
      have a2 : (c.toList.take o ++ us ++ c.toList.drop (o + us.length)).getD j Go.undef = c.getD j Go.undef := by
        rw [List.getD_eq_getElem?_getD, List.getElem?_append_right (by simp; omega), List.getElem?_drop]
        have : o + us.length + (j - (c.toList.take o ++ us).length) = j := by simp; omega
        rw [this]; simp
      rw [a1, a2]; exact h.2 j (by omega)

theorem setRow_old (w : World) (g : Nat) (c : Array Value) {k : Nat} (h : k ≠ g) : (w.setRow g c).heap[k]? = w.heap[k]? := setRow_other w g k c h

theorem Fr.setRow {μ : Mu} {w : World} {i b : Nat} {x : Option Nat} (h : μ i = some (b, x)) (c : Array Value) : Fr μ w (w.setRow b c) :=
  ⟨rfl, rfl, rfl, by rw [setRow_size]; exact Nat.le_refl _, fun k _ hn => setRow_old w b c (fun e => hn i x (e ▸ h)), fun k r hk => by
    refine ⟨r, ?_⟩
    by_cases hkb : k = b
    · subst hkb
      unfold World.setRow
      simp only [Array.getElem?_modify, if_true, hk, Option.map_some]
    · exact (setRow_old w b c hkb).trans hk⟩

/-- Cells of an own block are written. -/
theorem Rel.storeRow {φ : Phi} {μ : Mu} {B : Nat} {h : Heap} {w : World} (r : Rel φ μ B h w) {i b : Nat} {e : TypeId} {cs cs' : List V} (hi : hget h i = some (.cells e cs)) (hb : μ i = some (b, none)) {c c' : Array Value}
    (hc : w.heap[b]? = some (.cells c e (0, 0))) (hs : c'.size = c.size) (hr : RvA φ μ cs' c') : Rel φ μ B (h.set i (some (.cells e cs'))) (w.setRow b c') := by
  obtain ⟨b', x', hb', h0, c0, h1, h2, h3, h4⟩ := r.blk i _ hi
  have hbb : b' = b := by rw [hb] at hb'; simp at hb'; exact hb'.1.symm
  subst hbb
  have hil : i < h.length := (r.dom i b' _ hb).1
  refine ⟨r.glob, fun bb o v hv => ?_, fun bb n hn => ?_, r.inj, fun j bb p hj => ?_, fun j k hk => ?_⟩
  · have hne : bb ≠ b' := fun e => by rw [e, h4 o] at hv; cases hv
    rw [cell_setRow_other w b' c' ⟨bb, o, none⟩ hne]
    exact r.cell bb o v hv
  · obtain ⟨x, y, fr, hx, hy⟩ := r.size bb n hn
    by_cases he : bb = b'
    · subst he
      rw [hc] at hx
      simp only [Option.some.injEq, Obj.cells.injEq] at hx
      exact ⟨c', e, _, setRow_heap w bb c c' e _ hc, by rw [hs, hx.1, hy]⟩
    · exact ⟨x, y, fr, (setRow_old w b' c' he).trans hx, hy⟩
  · rw [setRow_size, List.length_set]; exact r.dom j bb p hj
  · rw [hget_set] at hk
    split at hk
    · rename_i hij
      obtain ⟨rfl, _⟩ := hij
      simp only [Option.some.injEq] at hk
      subst hk
      exact ⟨b', none, hb, rfl, c', setRow_heap w b' c c' e _ hc, hr.1.symm, hr.2, h4⟩
    · rename_i hij
      obtain ⟨bb, p, hbb, hk'⟩ := r.blk j k hk
      have hne : bb ≠ b' := fun e => hij ⟨r.inj i j b' _ _ hb (e ▸ hbb), hil⟩
      exact ⟨bb, p, hbb, hk'.mono φ.le_refl (Mu.le_refl _) (setRow_old w b' c' hne) (fun _ _ h => h)⟩

/-- Cells of a growing block are written, and it may have more that are known, its number being a later one then. -/
theorem Rel.storeGrow {φ : Phi} {μ : Mu} {B : Nat} {h : Heap} {w : World} (r : Rel φ μ B h w) {i b ver ver' sz : Nat} {e : TypeId} {cs cs' : List V} (hi : hget h i = some (.grow ver e sz cs)) (hb : μ i = some (b, some ver)) (hver : ver ≤ ver') {c c' : Array Value}
    (hc : w.heap[b]? = some (.cells c e (0, 0))) (hs : c'.size = c.size) (hl : cs'.length ≤ c'.size) (hr : ∀ j, j < cs'.length → Rv φ μ (cs'.getD j .undef) (c'.getD j Go.undef)) :
    Rel φ (μ.add i b (some ver')) B (h.set i (some (.grow ver' e sz cs'))) (w.setRow b c') ∧ Ext φ μ w φ (μ.add i b (some ver')) := by
  obtain ⟨b', x', hb', h0, c0, h1, h2, h3, h4, h5⟩ := r.blk i _ hi
  have hbb : b' = b := by rw [hb] at hb'; simp at hb'; exact hb'.1.symm
  subst hbb
  have hil : i < h.length := (r.dom i b' _ hb).1
  have hmu : μ.le (μ.add i b' (some ver')) := fun j x hx => by
    by_cases hj : j = i
    · subst hj
      rw [hb] at hx
      simp only [Option.some.injEq] at hx
      subst hx
      rcases Nat.lt_or_ge ver ver' with hlt | hge
      · exact .inr ⟨ver, b', ver', rfl, by unfold Mu.add; rw [if_pos rfl], hlt⟩
      · have : ver' = ver := by omega
        subst this
        exact .inl (by unfold Mu.add; rw [if_pos rfl])
    · exact .inl (by unfold Mu.add; rw [if_neg hj]; exact hx)
  rw [hc] at h1
  simp only [Option.some.injEq, Obj.cells.injEq] at h1
  obtain ⟨rfl, _⟩ := h1
  have hnew := setRow_heap w b' c c' e _ hc
  refine ⟨⟨r.glob, fun bb o v hv => ?_, fun bb n hn => ?_, fun j k bb x y hj hk => ?_, fun j bb p hj => ?_, fun j k hk => ?_⟩, φ.le_refl, hmu, fun j bb p hj => ?_, fun _ _ _ h => .inl h⟩
  · have hne : bb ≠ b' := fun e => by rw [e, h5 o] at hv; cases hv
    rw [cell_setRow_other w b' c' ⟨bb, o, none⟩ hne]
    exact r.cell bb o v hv
  · obtain ⟨x, y, fr, hx, hy⟩ := r.size bb n hn
    by_cases he : bb = b'
    · subst he
      rw [hc] at hx
      simp only [Option.some.injEq, Obj.cells.injEq] at hx
      exact ⟨c', e, _, hnew, by rw [hs, hx.1, hy]⟩
    · exact ⟨x, y, fr, (setRow_old w b' c' he).trans hx, hy⟩
  · unfold Mu.add at hj hk
    split at hj <;> split at hk
    · omega
    · rename_i h6 h7; simp at hj; obtain ⟨rfl, _⟩ := hj; exact absurd (r.inj k i _ _ _ hk hb) h7
    · rename_i h6 h7; simp at hk; obtain ⟨rfl, _⟩ := hk; exact absurd (r.inj j i _ _ _ hj hb) h6
    · exact r.inj j k bb x y hj hk
  · unfold Mu.add at hj
    rw [setRow_size, List.length_set]
    split at hj
    · rename_i he; subst he; simp at hj; obtain ⟨rfl, _⟩ := hj; exact r.dom j _ _ hb
    · exact r.dom j bb p hj
  · rw [hget_set] at hk
    split at hk
    · rename_i hij
      obtain ⟨rfl, _⟩ := hij
      simp only [Option.some.injEq] at hk
      subst hk
      refine ⟨b', some ver', by unfold Mu.add; rw [if_pos rfl], rfl, c', hnew, hl, ?_, fun j hj => (hr j hj).mono φ.le_refl hmu, h5⟩
      rw [hs]; exact h3
    · rename_i hij
      obtain ⟨bb, p, hbb, hk'⟩ := r.blk j k hk
      have hne' : j ≠ i := fun e => hij ⟨e.symm, hil⟩
      have hne : bb ≠ b' := fun e => hne' (r.inj j i b' _ _ (e ▸ hbb) hb)
      exact ⟨bb, p, by unfold Mu.add; rw [if_neg hne']; exact hbb, hk'.mono φ.le_refl hmu (setRow_old w b' c' hne) (fun _ _ h => h)⟩
  · unfold Mu.add at hj
    split at hj
    · rename_i he; subst he; simp at hj; obtain ⟨rfl, _⟩ := hj; exact .inl ⟨_, hb⟩
    · exact .inl ⟨_, hj⟩

/-- A new block, at a place that is free. -/
theorem Rel.newAt {φ : Phi} {μ : Mu} {B : Nat} {h : Heap} {w : World} (r : Rel φ μ B h w) (hB : B ≤ w.heap.size) {nid : Nat} (hnid : nid < h.length) (hfree : μ nid = none) (o : Obj) (k : Blk) (x : Option Nat)
    (hk : BlkR φ (μ.add nid w.heap.size x) w.heap.size x (w.alloc o) k) :
    Rel φ (μ.add nid w.heap.size x) B (h.set nid (some k)) (w.alloc o) ∧ Ext φ μ w φ (μ.add nid w.heap.size x) := by
  have hmu : μ.le (μ.add nid w.heap.size x) := fun i y hi => .inl (by
    unfold Mu.add
    rw [if_neg (fun e => by rw [e, hfree] at hi; cases hi)]; exact hi)
  have rg : Rel φ μ B h (w.alloc o) := r.grow (by rw [alloc_size]; omega) (fun k hk => alloc_old w _ hk)
  refine ⟨⟨r.glob, rg.cell, rg.size, fun i j b p q hi hj => ?_, fun i b p hi => ?_, fun i k' hk' => ?_⟩, φ.le_refl, hmu, fun i b p hi => ?_, fun _ _ _ h => .inl h⟩
  · unfold Mu.add at hi hj
    split at hi <;> split at hj
    · omega
    · simp at hi; obtain ⟨rfl, _⟩ := hi; have := (r.dom j _ _ hj).2.1; omega
    · simp at hj; obtain ⟨rfl, _⟩ := hj; have := (r.dom i _ _ hi).2.1; omega
    · exact r.inj i j b p q hi hj
  · unfold Mu.add at hi
    rw [alloc_size, List.length_set]
    split at hi
    · rename_i he; subst he; simp at hi; obtain ⟨rfl, _⟩ := hi; omega
    · have := r.dom i b p hi; omega
  · rw [hget_set] at hk'
    split at hk'
    · rename_i hh
      obtain ⟨rfl, _⟩ := hh
      simp only [Option.some.injEq] at hk'
      subst hk'
      exact ⟨w.heap.size, x, by unfold Mu.add; rw [if_pos rfl], hk⟩
    · obtain ⟨b, p, h1, h2⟩ := rg.blk i k' hk'
      have hne : i ≠ nid := fun e => by rw [e, hfree] at h1; cases h1
      exact ⟨b, p, by unfold Mu.add; rw [if_neg hne]; exact h1, h2.mono φ.le_refl hmu rfl (fun _ _ h => h)⟩
  · unfold Mu.add at hi
    split at hi
    · simp at hi; obtain ⟨rfl, _⟩ := hi; exact .inr (Nat.le_refl _)
    · exact .inl ⟨_, hi⟩

theorem Mu.add_le {μ : Mu} {nid b : Nat} {x : Option Nat} (hfree : μ nid = none) : μ.le (μ.add nid b x) := fun i y hi => .inl (by
  unfold Mu.add
  rw [if_neg (fun e => by rw [e, hfree] at hi; cases hi)]; exact hi)

/-- A block's size is known for good. -/
def Phi.sized (φ : Phi) (b n : Nat) : Phi := { φ with size := fun b' => if b' = b then some n else φ.size b' }

/-- A growing block, new, or in the place of what it was. -/
theorem Rel.growNew {φ : Phi} {μ : Mu} {B : Nat} {h : Heap} {w : World} (r : Rel φ μ B h w) (hB : B ≤ w.heap.size) {id ver sz : Nat} (hl : id < h.length) (hid : μ id = none ∨ ∃ b0 m, μ id = some (b0, some m) ∧ m < ver)
    {cs : List V} {c : Array Value} {e : TypeId} (hc : cs.length ≤ c.size) (hr : ∀ j, j < cs.length → Rv φ μ (cs.getD j .undef) (c.getD j Go.undef)) :
    Rel (φ.sized w.heap.size c.size) (μ.add id w.heap.size (some ver)) B (h.set id (some (.grow ver e sz cs))) (w.alloc (.cells c e)) ∧ Ext φ μ w (φ.sized w.heap.size c.size) (μ.add id w.heap.size (some ver)) := by
  have hle : φ.le (φ.sized w.heap.size c.size) := ⟨fun _ _ _ h => h, fun b n hn => by
    have := size_block r hn
    simp only [Phi.sized]
    rw [if_neg (by omega)]; exact hn⟩
  have hmu : μ.le (μ.add id w.heap.size (some ver)) := fun i x hx => by
    by_cases hi : i = id
    · subst hi
      rcases hid with h0 | ⟨b0, m, h0, hlt⟩
      · rw [h0] at hx; cases hx
      · rw [h0] at hx
        simp only [Option.some.injEq] at hx
        subst hx
        exact .inr ⟨m, _, ver, rfl, by unfold Mu.add; rw [if_pos rfl], hlt⟩
    · exact .inl (by unfold Mu.add; rw [if_neg hi]; exact hx)
  have rg : Rel φ μ B h (w.alloc (.cells c e)) := r.grow (by rw [alloc_size]; omega) (fun k hk => alloc_old w _ hk)
  refine ⟨⟨fun g cs hg' => (r.glob g cs hg').mono hle (Mu.le_refl _), rg.cell, fun b m hm => ?_, fun i j b x y hi hj => ?_, fun i b x hi => ?_, fun i k hk => ?_⟩, hle, hmu, fun i b x hi => ?_, fun _ _ _ h => .inl h⟩
  · simp only [Phi.sized] at hm
    split at hm
    · rename_i he
      subst he
      simp only [Option.some.injEq] at hm
      exact ⟨c, e, _, alloc_new w _, hm⟩
    · exact rg.size b m hm
  · unfold Mu.add at hi hj
    split at hi <;> split at hj
    · omega
    · simp at hi; obtain ⟨rfl, _⟩ := hi; have := (r.dom j _ _ hj).2.1; omega
    · simp at hj; obtain ⟨rfl, _⟩ := hj; have := (r.dom i _ _ hi).2.1; omega
    · exact r.inj i j b x y hi hj
  · unfold Mu.add at hi
    rw [alloc_size, List.length_set]
    split at hi
    · rename_i he; subst he; simp at hi; obtain ⟨rfl, _⟩ := hi; omega
    · have := r.dom i b x hi; omega
  · rw [hget_set] at hk
    split at hk
    · rename_i hh
      obtain ⟨rfl, _⟩ := hh
      simp only [Option.some.injEq] at hk
      subst hk
      refine ⟨w.heap.size, some ver, by unfold Mu.add; rw [if_pos rfl], rfl, c, alloc_new w _, hc, by simp [Phi.sized], fun j hj => (hr j hj).mono hle hmu, fun o => (phi_fresh r o : φ.cell _ o = none)⟩
    · rename_i hh
      obtain ⟨b, p, h1, h2⟩ := rg.blk i k hk
      have hne : i ≠ id := fun e => hh ⟨e.symm, hl⟩
      exact ⟨b, p, by unfold Mu.add; rw [if_neg hne]; exact h1, h2.mono hle hmu rfl (fun _ _ h => h)⟩
  · unfold Mu.add at hi
    split at hi
    · simp at hi; obtain ⟨rfl, _⟩ := hi; exact .inr (Nat.le_refl _)
    · exact .inl ⟨_, hi⟩

end Go.Cx
