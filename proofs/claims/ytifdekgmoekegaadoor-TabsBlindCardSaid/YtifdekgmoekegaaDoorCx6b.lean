/- A calculus for calls of the program: canonical values and heaps, and what each operation, loop and call does to them; no condition on the program. -/
import Derived.Test.YtifdekgmoekegaaDoorCx6a
namespace Go.Cx
open Go.RowKit

/-- The cells of immutable elements, one behind the other. -/
structure Flat (φ : Phi) (sz : Nat) (xs : List (List V)) (l : List Value) : Prop where
  len : l.length = xs.length * sz
  one : ∀ v ∈ l, v.oneCell' = true
  lens : ∀ i, i < xs.length → (xs.getD i []).length = sz
  rv : ∀ i j, i < xs.length → j < sz → Rv φ mu0 ((xs.getD i []).getD j .undef) (l.getD (i * sz + j) Go.undef)

theorem Flat.mono {φ φ' : Phi} (h : φ.le φ') {sz : Nat} {xs : List (List V)} {l : List Value} (f : Flat φ sz xs l) : Flat φ' sz xs l :=
  ⟨f.len, f.one, f.lens, fun i j hi hj => (f.rv i j hi hj).mono h (Mu.le_refl _)⟩

theorem idx_lt {i n sz j : Nat} (hi : i < n) (hj : j < sz) : i * sz + j < n * sz := by
  have : (i + 1) * sz ≤ n * sz := Nat.mul_le_mul_right _ (by omega)
  rw [Nat.add_mul] at this
  omega

theorem Flat.append {φ : Phi} {sz : Nat} {xs ys : List (List V)} {l m : List Value} (f : Flat φ sz xs l) (g : Flat φ sz ys m) : Flat φ sz (xs ++ ys) (l ++ m) := by
  refine ⟨by simp [f.len, g.len, Nat.add_mul], fun v hv => ?_, fun i hi => ?_, fun i j hi hj => ?_⟩
  · rcases List.mem_append.1 hv with h | h
    · exact f.one v h
    · exact g.one v h
  · simp only [List.length_append] at hi
    rw [List.getD_eq_getElem?_getD]
    by_cases h : i < xs.length
    · rw [List.getElem?_append_left h, ← List.getD_eq_getElem?_getD]; exact f.lens i h
    · rw [List.getElem?_append_right (by omega), ← List.getD_eq_getElem?_getD]; exact g.lens _ (by omega)
  · simp only [List.length_append] at hi
    rw [List.getD_eq_getElem?_getD (l := xs ++ ys), List.getD_eq_getElem?_getD (l := l ++ m)]
    by_cases h : i < xs.length
    · have := idx_lt h hj
      rw [List.getElem?_append_left h, List.getElem?_append_left (by rw [f.len]; omega), ← List.getD_eq_getElem?_getD, ← List.getD_eq_getElem?_getD]
      exact f.rv i j h hj
    · have h1 : xs.length * sz ≤ i * sz := Nat.mul_le_mul_right _ (by omega)
      have e : i * sz + j - l.length = (i - xs.length) * sz + j := by rw [f.len, Nat.sub_mul]; omega
      rw [List.getElem?_append_right (by omega), List.getElem?_append_right (by rw [f.len]; omega), e, ← List.getD_eq_getElem?_getD, ← List.getD_eq_getElem?_getD]
      exact g.rv _ j (by omega) hj

theorem Flat.toRv {φ : Phi} {μ : Mu} {sz : Nat} {xs : List (List V)} {l : List Value} (f : Flat φ sz xs l) {b off cap : Nat} {tok : Tok} (hcap : xs.length ≤ cap) (hc : ∀ k, k < l.length → φ.cell b (off + k) = some (l.getD k Go.undef)) (ht : TokOk φ μ b off xs.length cap sz tok) :
    Rv φ μ (.psl sz xs tok) (.slice (some ⟨b, off, none⟩) xs.length cap) :=
  .psl _ _ _ _ _ _ _ (fun i j => l.getD (i * sz + j) Go.undef) hcap f.lens (fun i j hi hj => by
    have := hc (i * sz + j) (by rw [f.len]; exact idx_lt hi hj)
    rwa [← Nat.add_assoc] at this) f.rv ht

/-- What a slice's elements are in memory. -/
theorem flat_of_psl {φ : Phi} {sz : Nat} {xs : List (List V)} {b off : Nat} {c : Nat → Nat → Value} (h1 : ∀ i, i < xs.length → (xs.getD i []).length = sz) (h2 : ∀ i j, i < xs.length → j < sz → φ.cell b (off + i * sz + j) = some (c i j)) (h3 : ∀ i j, i < xs.length → j < sz → Rv φ mu0 ((xs.getD i []).getD j .undef) (c i j)) :
    ∃ l, Flat φ sz xs l ∧ ∀ k, k < l.length → φ.cell b (off + k) = some (l.getD k Go.undef) := by
  refine ⟨(List.range (xs.length * sz)).map fun k => c (k / sz) (k % sz), ?_, ?_⟩
  · refine ⟨by simp, fun v hv => ?_, h1, fun i j hi hj => ?_⟩
    · simp only [List.mem_map, List.mem_range] at hv
      obtain ⟨k, hk, rfl⟩ := hv
      have hsz : 0 < sz := by
        rcases Nat.eq_zero_or_pos sz with h | h
        · subst h; simp at hk
        · exact h
      have hi : k / sz < xs.length := (Nat.div_lt_iff_lt_mul hsz).2 hk
      exact φ.one _ _ _ (h2 (k / sz) (k % sz) hi (Nat.mod_lt _ hsz))
    · have hlt := idx_lt hi hj
      have hsz : 0 < sz := by omega
      have e : ((List.range (xs.length * sz)).map fun k => c (k / sz) (k % sz)).getD (i * sz + j) Go.undef = c i j := by
        rw [List.getD_eq_getElem?_getD, List.getElem?_map, List.getElem?_range hlt]
        simp only [Option.map_some, Option.getD_some]
        rw [Nat.mul_comm, Nat.mul_add_div hsz, Nat.div_eq_of_lt hj, Nat.mul_add_mod, Nat.mod_eq_of_lt hj, Nat.add_zero]
      rw [e]; exact h3 i j hi hj
  · intro k hk
    simp only [List.length_map, List.length_range] at hk
    have hsz : 0 < sz := by
      rcases Nat.eq_zero_or_pos sz with h | h
      · subst h; simp at hk
      · exact h
    have hi : k / sz < xs.length := (Nat.div_lt_iff_lt_mul hsz).2 hk
    have := h2 (k / sz) (k % sz) hi (Nat.mod_lt _ hsz)
    have e : ((List.range (xs.length * sz)).map fun k => c (k / sz) (k % sz)).getD k Go.undef = c (k / sz) (k % sz) := by
      rw [List.getD_eq_getElem?_getD, List.getElem?_map, List.getElem?_range hk]
      rfl
    rw [e, ← this, Nat.add_assoc]
    congr 2
    have := Nat.div_add_mod k sz
    rw [Nat.mul_comm] at this
    exact this.symm

theorem run_first {P : Program} {φ : Phi} {μ : Mu} {B : Nat} {h : Heap} {w : World} (r : Rel φ μ B h w) {b off sz n cap m : Nat} {l : List Value} (hl : l.length = n * sz) (hc : ∀ k, k < l.length → φ.cell b (off + k) = some (l.getD k Go.undef)) :
    (Builtin.firstCells sz n (.slice (some ⟨b, off, none⟩) m cap)).run P w = .ok l.toArray w := by
  simp only [Builtin.firstCells]
  rw [← hl]
  refine run_loadCells_list _ ⟨b, off, none⟩ l (fun j v hv => ?_)
  obtain ⟨hj, hE⟩ := List.getElem?_eq_some_iff.1 hv
  have := r.cell _ _ _ (hc j hj)
  rw [List.getD_eq_getElem?_getD, hv, Option.getD_some] at this
  simp only [Addr.add]
  split
  · rename_i h0; subst h0; simpa using this
  · exact this

theorem cell?_drawn (w : World) (n : Nat) (a : Addr) : ({ w with drawn := n } : World).cell? a = w.cell? a := rfl

theorem nextcap_le {need cap : Nat} (h : cap < need) : Builtin.nextslicecap need cap ≤ 2 * need := by
  have hg : ∀ (k c : Nat), 256 ≤ c → c < 2 * need → Builtin.growBy need k c ≤ 2 * need := by
    intro k
    induction k with
    | zero => intro c _ h2; simp only [Builtin.growBy]; omega
    | succ k ih =>
      intro c h1 h2
      simp only [Builtin.growBy]
      split
      · omega
      · exact ih _ (by omega) (by omega)
  unfold Builtin.nextslicecap
  split
  · omega
  · split
    · omega
    · exact hg 4 cap (by omega) (by omega)

end Go.Cx
