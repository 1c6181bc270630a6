/- A calculus for calls of the program: canonical values and heaps, and what each operation, loop and call does to them; no condition on the program. -/
import Derived.Test.YtifdekgmoekegaaDoorCx7b
namespace Go.Cx
open Go.RowKit

/-! ### Each operation on memory -/
theorem ones_of {φ : Phi} {μ : Mu} {vs : List V} {us : List Value} (h : allOne vs = true) (hr : RvA φ μ vs us.toArray) : ∀ v ∈ us, v.oneCell' = true := fun v hv => by
  obtain ⟨j, hj, hE⟩ := List.getElem_of_mem hv
  have hj' : j < vs.length := by rw [hr.1]; simpa using hj
  have h5 := hr.2 j hj'
  have e1 : us.toArray.getD j Go.undef = v := by rw [← hE]; simp [hj]
  have e2 : vs.getD j .undef = vs[j] := by simp [hj']
  rw [e1, e2] at h5
  refine (one_cells h5 ?_).2
  unfold allOne at h
  rw [List.all_eq_true] at h
  exact h _ (List.getElem_mem hj')

theorem fitsB_spec {ei : TI} {k : Nat} (h : fitsB ei k = true) : 0 < ei.size ∧ 0 < ei.bytes ∧ k * (2 * ei.bytes) ≤ 281474976710656 := by
  simp only [fitsB, Bool.and_eq_true] at h
  exact ⟨nblt_t h.1.1, nblt_t h.1.2, Nat.le_of_ble_eq_true h.2⟩

theorem slcK_spec {k : TK} {d : TypeDesc} (h : slcK k = true) (hk : kindOk k d = true) : sliceish d := by
  cases k <;> first | (cases h; done) | skip
  · exact .inl (kind_str hk)
  · exact .inr ⟨_, kind_slice hk⟩

section
variable {P : Program} {T : Nat → Option TI} (hT : TOk P T) {φ : Phi} {μ : Mu} {B : Nat} {h : Heap} {w : World} (hB : B ≤ w.heap.size) (r : Rel φ μ B h w) {nid : Nat} {out : Out} (hc : out.c = true) (hnid : nid + out.nw ≤ h.length) (hfree : ∀ q, q < out.nw → μ (nid + q) = none)
include hT r hc

theorem loadF_ok {t : Nat} {x : V} {cx : Value} (hx : Rv φ μ x cx) (hf : loadF T t x (hget h) = some out) : ∃ cv, (Instr.loadAt t cx).run P w = .ok cv w ∧ OutR φ μ B h w nid out cv w := by
  unfold loadF at hf
  split at hf
  · rename_i i q
    split at hf
    · rename_i e cs hh
      split at hf
      · rename_i c v hv
        simp only [Option.some.injEq] at hf
        subst hf
        have hv := loadT_V hv hc
        cases hx; rename_i b hb
        obtain ⟨c, h1, h2⟩ := hget_cells r hh hb
        obtain ⟨cv, g1, g2⟩ := run_load_ok hT (off := 0) (c := fun j => c.getD j Go.undef) hv (fun j hj => by
          have : j < c.size := by have := h2.1; omega
          simp [World.cell?, h1, this]) h2.2 (w := w) (b := b)
        rw [Nat.zero_add] at g1
        exact ⟨cv, g1, OutR.same r g2 rfl⟩
      · cases hf
    · cases hf
  · rename_i i q ver
    split at hf
    · rename_i ver' e sz cs hh
      split at hf
      · rename_i c v hv
        simp only [Option.some.injEq] at hf
        subst hf
        simp only [Bool.and_eq_true] at hc
        obtain ⟨hver, hc⟩ := hc
        have hver := Nat.eq_of_beq_eq_true hver
        subst hver
        have hv := loadT_V hv hc
        cases hx with
        | gptr _ _ _ _ b m a g1 g2 g3 =>
          obtain ⟨rfl, c, h1, h2, h3, h4⟩ := hget_grow r hh g1
          rw [g3 rfl]
          obtain ⟨cv, k1, k2⟩ := run_load_ok hT (off := 0) (c := fun j => c.getD j Go.undef) hv (fun j hj => by
            have : j < c.size := by omega
            simp [World.cell?, h1, this]) h4 (w := w) (b := b)
          rw [Nat.zero_add] at k1
          exact ⟨cv, k1, OutR.same r k2 rfl⟩
      · cases hf
    · cases hf
  · rename_i cs
    split at hf
    · rename_i c v hv
      simp only [Option.some.injEq] at hf
      subst hf
      have hv := loadT_V hv hc
      cases hx; rename_i b off c h1 h2
      obtain ⟨cv, g1, g2⟩ := run_load_ok hT (off := off) (c := c) hv (fun j hj => r.cell _ _ _ (h1 j hj)) (fun j hj => (h2 j hj).mono φ.le_refl (mu0_le μ)) (w := w) (b := b)
      rw [Nat.add_zero] at g1
      exact ⟨cv, g1, OutR.same r g2 rfl⟩
    · cases hf
  · cases hf

theorem storeF_ok {t : Nat} {x y : V} {cx cy : Value} (hx : Rv φ μ x cx) (hy : Rv φ μ y cy) (hf : storeF T t x y (hget h) = some out) : ∃ w', (Instr.storeAt t cx cy).run P w = .ok () w' ∧ OutR φ μ B h w nid out Go.undef w' := by
  unfold storeF at hf
  split at hf
  · rename_i ti vs hti hvs
    obtain ⟨inf, d, z, k⟩ := hT t ti hti
    have hvA := cellsOf_ok hy hvs
    have hlist : cy.cells.toList.length = vs.length := by simp [hvA.1]
    have hvA' : RvA φ μ vs cy.cells.toList.toArray := by rw [Array.toArray_toList]; exact hvA
    have hval : ∀ j, j < vs.length → Rv φ μ (vs.getD j .undef) (cy.cells.toList.getD j Go.undef) := fun j hj => by
      have := hvA.2 j hj
      have e : cy.cells.toList.getD j Go.undef = cy.cells.getD j Go.undef := by simp
      rw [e]; exact this
    have hrun : ∀ {b q : Nat} {w' : World}, vs.length = ti.size → (storeCells ⟨b, q, none⟩ cy.cells.toList 0).run P w = .ok () w' → (Instr.storeAt t (.pointer (some ⟨b, q, none⟩)) cy).run P w = .ok () w' := fun hl hst => by
      have hsz : cy.cells.size = inf.size := by rw [k.size, ← hl, hvA.1]
      simp only [Instr.storeAt, Instr.sureAddr, storeVar, Sem.run_bind, Sem.run_pure, Result.andThen_ok, run_sizeOf k.info, hsz, ne_eq, not_true_eq_false, if_false, hst]
    split at hf
    · rename_i i q
      split at hf
      · rename_i e cs hh
        simp only [Option.some.injEq] at hf
        subst hf
        simp only [Bool.and_eq_true] at hc
        obtain ⟨⟨hone, hlen⟩, hle⟩ := hc
        have hlen := Nat.eq_of_beq_eq_true hlen
        have hle := Nat.le_of_ble_eq_true hle
        cases hx; rename_i b hb
        obtain ⟨c, h1, h2⟩ := hget_cells r hh hb
        have hcl := h2.1
        have hst := run_storeCells_at P b q e cy.cells.toList 0 c w h1 (by omega) (ones_of hone hvA')
        simp only [Nat.add_zero] at hst
        refine ⟨_, hrun hlen hst, OutR.store r hh hb h1 ?_ (setL_rvA h2 (o := q) (us := cy.cells.toList) hlist.symm hval hle) rfl (.undef _ _)⟩
        rw [List.size_toArray]
        simp only [List.length_append, List.length_take, List.length_drop, Array.length_toList] at hlist ⊢
        omega
      · cases hf
    · rename_i i q ver
      split at hf
      · rename_i ver' e sz cs hh
        simp only [Option.some.injEq] at hf
        subst hf
        simp only [Bool.and_eq_true] at hc
        obtain ⟨hver, ⟨hone, hlen⟩, hle⟩ := hc
        have hver := Nat.eq_of_beq_eq_true hver
        subst hver
        have hlen := Nat.eq_of_beq_eq_true hlen
        have hle := Nat.le_of_ble_eq_true hle
        cases hx with
        | gptr _ _ _ _ b m a g1 g2 g3 =>
          obtain ⟨rfl, c, h1, h2, h3, h4⟩ := hget_grow r hh g1
          rw [g3 rfl]
          have hst := run_storeCells_at P b q e cy.cells.toList 0 c w h1 (by omega) (ones_of hone hvA')
          simp only [Nat.add_zero] at hst
          have hcs : (c.toList.take q ++ cy.cells.toList ++ c.toList.drop (q + cy.cells.toList.length)).toArray.size = c.size := by
            rw [List.size_toArray]
            simp only [List.length_append, List.length_take, List.length_drop, Array.length_toList] at hlist ⊢
            omega
          have hA := setL_take h2 h4 (o := q) (us := cy.cells.toList) hlist.symm hval hle
          refine ⟨_, hrun hlen hst, OutR.storeG r hh g1 (Nat.le_refl _) h1 hcs (by rw [setL_length hle, hcs]; exact h2) hA rfl (.undef _ _)⟩
      · cases hf
    · cases hf
  · cases hf
end
end Go.Cx
