/- A calculus for calls of the program: canonical values and heaps, and what each operation, loop and call does to them; no condition on the program. -/
import Derived.Test.YtifdekgmoekegaaDoorCx6c
namespace Go.Cx
open Go.RowKit

def Phi.row (φ : Phi) (b o : Nat) (l : List Value) (n : Nat) (h1 : ∀ v ∈ l, v.oneCell' = true) : Phi :=
  { cell := fun b' k => if b' = b ∧ o ≤ k ∧ k < o + l.length then l[k - o]? else φ.cell b' k,
    size := fun b' => if b' = b then some n else φ.size b',
    one := fun b' k v hv => by
      split at hv
      · exact h1 v (List.mem_of_getElem? hv)
      · exact φ.one b' k v hv }

theorem cell_heap {w : World} {b o : Nat} {c : Array Value} {e : TypeId} {fr : Nat × Nat} (h : w.heap[b]? = some (.cells c e fr)) : w.cell? ⟨b, o, none⟩ = c[o]? := by
  simp [World.cell?, h]

/-- What changes of heaps: block id becomes a token. -/
structure Became (h h' : Heap) (id : Nat) (k : Blk) : Prop where
  at_ : hget h' id = some k
  other : ∀ i, i ≠ id → hget h' i = hget h i
  len : id < h'.length ∧ h.length ≤ h'.length

theorem became_push (h : Heap) (k : Blk) : Became h (h ++ [some k]) h.length k :=
  ⟨by rw [hget_push, if_pos rfl], fun i hi => by rw [hget_push, if_neg hi], by simp⟩
theorem became_set (h : Heap) {id : Nat} (hid : id < h.length) (k : Blk) : Became h (h.set id (some k)) id k :=
  ⟨by rw [hget_set, if_pos ⟨rfl, hid⟩], fun i hi => by rw [hget_set, if_neg (fun e => hi e.1.symm)], by simp [hid]⟩

theorem Rel.tokenNew {φ : Phi} {μ : Mu} {B : Nat} {h h' : Heap} {w : World} (r : Rel φ μ B h w) (hB : B ≤ w.heap.size) {id n sz : Nat} (hb : Became h h' id (.token sz n)) (hid : μ id = none ∨ ∃ b0 m, μ id = some (b0, some m) ∧ m < n)
    {l : List Value} {c : Array Value} {e : TypeId} (hl : l.length = n * sz) (hc : ∀ k, k < l.length → c[k]? = l[k]?) (h1 : ∀ v ∈ l, v.oneCell' = true) :
    φ.le (φ.row w.heap.size 0 l c.size h1) ∧ Rel (φ.row w.heap.size 0 l c.size h1) (μ.add id w.heap.size (some n)) B h' (w.alloc (.cells c e)) ∧ Ext φ μ w (φ.row w.heap.size 0 l c.size h1) (μ.add id w.heap.size (some n)) := by
  have hle : φ.le (φ.row w.heap.size 0 l c.size h1) := by
    refine ⟨fun b o v hv => ?_, fun b m hm => ?_⟩
    · have := cell_block (r.cell _ _ _ hv)
      simp only [Phi.row]
      rw [if_neg (by omega)]; exact hv
    · have := size_block r hm
      simp only [Phi.row]
      rw [if_neg (by omega)]; exact hm
  have hmu : μ.le (μ.add id w.heap.size (some n)) := fun i x hx => by
    by_cases hi : i = id
    · subst hi
      rcases hid with h0 | ⟨b0, m, h0, hlt⟩
      · rw [h0] at hx; cases hx
      · rw [h0] at hx
        simp only [Option.some.injEq] at hx
        subst hx
        exact .inr ⟨m, _, n, rfl, by unfold Mu.add; rw [if_pos rfl], hlt⟩
    · exact .inl (by unfold Mu.add; rw [if_neg hi]; exact hx)
  have rg : Rel φ μ B h (w.alloc (.cells c e)) := r.grow (by rw [alloc_size]; omega) (fun k hk => alloc_old w _ hk)
  refine ⟨hle, ⟨fun g cs hg' => (r.glob g cs hg').mono hle (Mu.le_refl _), fun b o v hv => ?_, fun b m hm => ?_, fun i j b x y hi hj => ?_, fun i b x hi => ?_, fun i k hk => ?_⟩, hle, hmu, fun i b x hi => ?_, fun b o v hv => ?_⟩
  · simp only [Phi.row] at hv
    split at hv
    · rename_i hh
      obtain ⟨rfl, _, h3⟩ := hh
      rw [cell_heap (alloc_new w _), hc o (by omega)]
      simpa using hv
    · exact rg.cell b o v hv
  · simp only [Phi.row] at hm
    split at hm
    · rename_i hh
      subst hh
      simp only [Option.some.injEq] at hm
      exact ⟨c, e, _, alloc_new w _, hm⟩
    · exact rg.size b m hm
  · unfold Mu.add at hi hj
    split at hi <;> split at hj
    · omega
    · simp at hi; obtain ⟨rfl, _⟩ := hi; have := (r.dom j _ _ hj).2.1; omega
    · simp at hj; obtain ⟨rfl, _⟩ := hj; have := (r.dom i _ _ hi).2.1; omega
    · exact r.inj i j b x y hi hj
  · unfold Mu.add at hi
    rw [alloc_size]
    split at hi
    · rename_i he; subst he; simp at hi; obtain ⟨rfl, _⟩ := hi; exact ⟨hb.len.1, by omega, hB⟩
    · have := r.dom i b x hi; have := hb.len.2; exact ⟨by omega, by omega, by omega⟩
  · by_cases he : i = id
    · subst he
      rw [hb.at_] at hk
      simp only [Option.some.injEq] at hk
      subst hk
      refine ⟨w.heap.size, some n, by unfold Mu.add; rw [if_pos rfl], rfl, c, e, alloc_new w _, ?_, fun o ho => ?_⟩
      · simp [Phi.row]
      · simp only [Phi.row]
        rw [if_neg (by omega)]
        exact phi_fresh r o
    · rw [hb.other i he] at hk
      obtain ⟨b, x, g1, g2⟩ := rg.blk i k hk
      refine ⟨b, x, by unfold Mu.add; rw [if_neg he]; exact g1, g2.mono hle hmu rfl (fun o v hv => ?_)⟩
      have := (r.dom i b x g1).2.1
      simp only [Phi.row] at hv
      rwa [if_neg (by omega)] at hv
  · unfold Mu.add at hi
    split at hi
    · simp at hi; obtain ⟨rfl, _⟩ := hi; exact .inr (Nat.le_refl _)
    · exact .inl ⟨_, hi⟩
  · simp only [Phi.row] at hv
    split at hv
    · rename_i hh; exact .inr (.inl (by omega))
    · exact .inl hv

/-- Cells behind a token's are written. -/
theorem Rel.tokenFit {φ : Phi} {μ : Mu} {B : Nat} {h : Heap} {w : World} (r : Rel φ μ B h w) {id b m n sz : Nat} (hh : hget h id = some (.token sz m)) (hid : μ id = some (b, some m)) (hmn : m < n)
    {l : List Value} {c : Array Value} {e : TypeId} (hg : w.heap[b]? = some (.cells c e (0, 0))) (hl : m * sz + l.length = n * sz) (hfit : n * sz ≤ c.size) (h1 : ∀ v ∈ l, v.oneCell' = true) :
    φ.le (φ.row b (m * sz) l c.size h1) ∧ Rel (φ.row b (m * sz) l c.size h1) (μ.add id b (some n)) B (h.set id (some (.token sz n))) (w.setRow b (c.toList.take (m * sz) ++ l ++ c.toList.drop (m * sz + l.length)).toArray) ∧
      Ext φ μ w (φ.row b (m * sz) l c.size h1) (μ.add id b (some n)) := by
  obtain ⟨b', x', hb', hx', c0, e0, g1, g2, g3⟩ := r.blk id _ hh
  rw [hid] at hb'
  simp only [Option.some.injEq, Prod.mk.injEq] at hb'
  obtain ⟨rfl, rfl⟩ := hb'
  rw [hg] at g1
  simp only [Option.some.injEq, Obj.cells.injEq] at g1
  obtain ⟨rfl, rfl, _⟩ := g1
  have hidl : id < h.length := (r.dom id b _ hid).1
  have hle : φ.le (φ.row b (m * sz) l c.size h1) := by
    refine ⟨fun b' o v hv => ?_, fun b' k hk => ?_⟩
    · simp only [Phi.row]
      split
      · rename_i hcnd
        obtain ⟨rfl, h2, _⟩ := hcnd
        rw [g3 o h2] at hv; cases hv
      · exact hv
    · simp only [Phi.row]
      split
      · rename_i he; subst he; rw [g2] at hk; exact hk
      · exact hk
  have hmu : μ.le (μ.add id b (some n)) := fun i x hx => by
    by_cases hi : i = id
    · subst hi
      rw [hid] at hx
      simp only [Option.some.injEq] at hx
      subst hx
      exact .inr ⟨m, b, n, rfl, by unfold Mu.add; rw [if_pos rfl], hmn⟩
    · exact .inl (by unfold Mu.add; rw [if_neg hi]; exact hx)
  generalize hC : (c.toList.take (m * sz) ++ l ++ c.toList.drop (m * sz + l.length)).toArray = C
  have hCs : C.size = c.size := by rw [← hC]; simp; omega
  have hCl : ∀ o, o < m * sz → C[o]? = c[o]? := fun o ho => by
    rw [← hC, List.getElem?_toArray, List.getElem?_append_left (by simp; omega), List.getElem?_append_left (by simp; omega), List.getElem?_take_of_lt ho]
    simp
  have hCm : ∀ o, m * sz ≤ o → o < m * sz + l.length → C[o]? = l[o - m * sz]? := fun o h2 h3 => by
    rw [← hC, List.getElem?_toArray, List.getElem?_append_left (by simp; omega), List.getElem?_append_right (by simp; omega)]
    congr 1
    simp; omega
  have hnew := setRow_heap w b c C e (0, 0) hg
  refine ⟨hle, ⟨fun g cs hg' => (r.glob g cs hg').mono hle (Mu.le_refl _), fun b' o v hv => ?_, fun b' k hk => ?_, fun i j b' x y hi hj => ?_, fun i b' x hi => ?_, fun i k hk => ?_⟩, hle, hmu, fun i b' x hi => ?_, fun b' o v hv => ?_⟩
  · simp only [Phi.row] at hv
    split at hv
    · rename_i hcnd
      obtain ⟨rfl, h2, h3⟩ := hcnd
      rw [cell_heap hnew, hCm o h2 h3]
      exact hv
    · by_cases he : b' = b
      · subst he
        have hlt : o < m * sz := by
          rcases Nat.lt_or_ge o (m * sz) with h' | h'
          · exact h'
          · rw [g3 o h'] at hv; cases hv
        have := r.cell _ _ _ hv
        rw [cell_heap hg] at this
        rw [cell_heap hnew, hCl o hlt]
        exact this
      · rw [cell_setRow_other w b C ⟨b', o, none⟩ he]
        exact r.cell b' o v hv
  · simp only [Phi.row] at hk
    split at hk
    · rename_i he
      subst he
      simp only [Option.some.injEq] at hk
      exact ⟨C, e, _, hnew, by rw [hCs]; exact hk⟩
    · rename_i he
      obtain ⟨x, y, fr, hx, hy⟩ := r.size b' k hk
      exact ⟨x, y, fr, (setRow_old w b C he).trans hx, hy⟩
  · unfold Mu.add at hi hj
    split at hi <;> split at hj
    · omega
    · rename_i h2 h3; simp at hi; obtain ⟨rfl, _⟩ := hi; exact absurd (r.inj j id _ _ _ hj hid) h3
    · rename_i h2 h3; simp at hj; obtain ⟨rfl, _⟩ := hj; exact absurd (r.inj i id _ _ _ hi hid) h2
    · exact r.inj i j b' x y hi hj
  · unfold Mu.add at hi
    rw [setRow_size, List.length_set]
    split at hi
    · rename_i he; subst he; simp at hi; obtain ⟨rfl, _⟩ := hi; exact r.dom i b _ hid
    · exact r.dom i b' x hi
  · by_cases he : i = id
    · subst he
      rw [hget_set, if_pos ⟨rfl, hidl⟩] at hk
      simp only [Option.some.injEq] at hk
      subst hk
      refine ⟨b, some n, by unfold Mu.add; rw [if_pos rfl], rfl, C, e, hnew, ?_, fun o ho => ?_⟩
      · simp [Phi.row, hCs]
      · have hms : m * sz ≤ n * sz := by omega
        simp only [Phi.row]
        rw [if_neg (by omega)]
        exact g3 o (by omega)
    · rw [hget_set, if_neg (fun e => he e.1.symm)] at hk
      obtain ⟨b', x, k1, k2⟩ := r.blk i k hk
      have hne : b' ≠ b := fun e => he (r.inj i id b _ _ (e ▸ k1) hid)
      refine ⟨b', x, by unfold Mu.add; rw [if_neg he]; exact k1, k2.mono hle hmu (setRow_old w b C hne) (fun o v hv => ?_)⟩
      simp only [Phi.row] at hv
      rwa [if_neg (fun e => hne e.1)] at hv
  · unfold Mu.add at hi
    split at hi
    · rename_i he; subst he; simp at hi; obtain ⟨rfl, _⟩ := hi; exact .inl ⟨_, hid⟩
    · exact .inl ⟨_, hi⟩
  · simp only [Phi.row] at hv
    split at hv
    · rename_i hh; exact .inr (.inr ⟨id, _, by rw [hh.1]; exact hid⟩)
    · exact .inl hv
end Go.Cx
