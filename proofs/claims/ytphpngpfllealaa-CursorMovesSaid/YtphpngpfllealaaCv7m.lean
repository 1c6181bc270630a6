/- A calculus for calls of the program: canonical values and heaps, and what each operation, loop and call does to them; no condition on the program. -/
import Derived.Test.YtphpngpfllealaaCv7
namespace Go.Cv

theorem cond_mono {b : Bool} {X X' : Prop} (h : X → X') (hk : cond b X False) : cond b X' False := by
  cases b
  · exact hk
  · exact h hk

theorem buildSliceP_mono {T : Nat → Option TI} {t n : Nat} {parts : List (Nat × V)} {h : Heap} {K K' : V → Heap → Prop} (hK : ∀ v h, K v h → K' v h) (hk : buildSliceP T t n parts h K) : buildSliceP T t n parts h K' := by
  unfold buildSliceP at hk ⊢
  split at hk
  · split at hk
    · split at hk
      · split at hk
        · rename_i h1 _ _ h2 _ _ h3 _ _ h4
          simp only [fl2_eq, fll_eq] at hk ⊢
          generalize Nat.ble _ _ = b1 at hk ⊢
          cases b1
          · exact hk
          · simp only [cond_true] at hk ⊢
            generalize List.all _ _ = b2 at hk ⊢
            cases b2
            · exact hK _ _ hk
            · exact hK _ _ hk
        · exact hk.elim
      · exact hk.elim
    · exact hk.elim
  · exact hk.elim

theorem sliceP_mono {T : Nat → Option TI} {t : Nat} {x : V} {lo hi : Option V} {h : Heap} {K K' : V → Heap → Prop} (hK : ∀ v h, K v h → K' v h) (hk : sliceP T t x lo hi h K) : sliceP T t x lo hi h K' := by
  unfold sliceP at hk ⊢
  split at hk
  · split at hk
    · split at hk
      · exact ⟨hk.1, hK _ _ hk.2⟩
      · exact hk.elim
    · split at hk
      · exact cond_mono (fun hk => ⟨hk.1, hK _ _ hk.2⟩) hk
      · exact hk.elim
    · split at hk
      · exact hK _ _ hk
      · exact hk.elim
    · exact hk.elim
  · exact hk.elim

theorem indexP_mono {T : Nat → Option TI} {t : Nat} {x i : V} {h : Heap} {K K' : V → Heap → Prop} (hK : ∀ v h, K v h → K' v h) (hk : indexP T t x i h K) : indexP T t x i h K' := by
  unfold indexP at hk ⊢
  split at hk
  · split at hk
    · split at hk
      · refine ⟨hk.1, ?_⟩
        have hk := hk.2
        split at hk
        · exact hK _ _ hk
        · exact hk.elim
      · exact hk.elim
    · obtain ⟨b, h1, h2⟩ := hk
      exact ⟨b, h1, hK _ _ h2⟩
    · exact hk.elim
  · exact hk.elim

theorem appendP_mono {T : Nat → Option TI} {t xt : Nat} {s x : V} {h : Heap} {K K' : V → Heap → Prop} (hK : ∀ v h, K v h → K' v h) (hk : appendP T t xt s x h K) : appendP T t xt s x h K' := by
  unfold appendP at hk ⊢
  split at hk
  · split at hk
    · split at hk
      · split at hk
        · split at hk
          · exact hK _ _ hk
          · exact hK _ _ hk
          · exact hk.elim
        · split at hk
          · exact ⟨hk.1, hK _ _ hk.2⟩
          · exact ⟨hk.1, hK _ _ hk.2⟩
          · split at hk
            · exact ⟨hk.1, hK _ _ hk.2⟩
            · exact hk.elim
          · exact hk.elim
        · exact hk.elim
      · exact hk.elim
    · exact hk.elim
  · exact hk.elim

theorem opP_mono {P : Program} {T : Nat → Option TI} {ev : Operand → V} {h : Heap} {K K' : V → Heap → Prop} (hK : ∀ v h, K v h → K' v h) (op : Op) (hk : opP P T ev h K op) : opP P T ev h K' op := by
  cases op <;> simp only [opP] at hk ⊢
  case alloc =>
    split at hk
    · split at hk
      · exact hK _ _ hk
      · exact hk.elim
    · exact hk.elim
  case box =>
    split at hk
    · exact hK _ _ hk
    · exact hk.elim
  case load =>
    split at hk
    · split at hk
      · split at hk
        · exact hK _ _ hk
        · exact hk.elim
      · exact hk.elim
    · split at hk
      · exact hK _ _ hk
      · exact hk.elim
    · exact hk.elim
  case store =>
    split at hk
    · split at hk
      · exact cond_mono (fun hk => hK _ _ hk) hk
      · exact hk.elim
    · exact hk.elim
  case build =>
    split at hk
    · exact hK _ _ hk
    · exact hk.elim
  case buildSlice => exact buildSliceP_mono hK hk
  case slice =>
    split at hk
    · exact sliceP_mono hK hk
    · exact hk.elim
  case index => exact indexP_mono hK hk
  case indexAddr =>
    split at hk
    · split at hk
      · split at hk
        · exact cond_mono (fun ⟨cs, h1, h2⟩ => ⟨cs, h1, hK _ _ h2⟩) hk
        · exact hk.elim
      · split at hk
        · exact cond_mono (fun hk => ⟨hk.1, hK _ _ hk.2⟩) hk
        · exact hk.elim
      · split at hk
        · exact ⟨hk.1, hK _ _ hk.2⟩
        · exact hk.elim
      · split at hk
        · exact ⟨hk.1, hK _ _ hk.2⟩
        · exact hk.elim
      · exact hk.elim
    · exact hk.elim
  case binOp =>
    split at hk
    · exact cond_mono (fun hk => ⟨hk.1, hK _ _ hk.2⟩) hk
    · exact cond_mono (fun hk => ⟨hk.1, hK _ _ hk.2⟩) hk
    · exact ⟨hk.1, hK _ _ hk.2⟩
    · exact ⟨hk.1, hK _ _ hk.2⟩
    · split at hk
      · exact hK _ _ hk
      · exact hk.elim
  case call =>
    split at hk
    · split at hk
      · exact appendP_mono hK hk
      · exact hk.elim
    · split at hk
      · rw [fl2_eq] at hk ⊢
        exact hk.mono hK
      · exact hk.elim
    · split at hk
      · exact hK _ _ hk
      · exact hk.elim
    · exact hk.elim
  all_goals
    split at hk
    · exact hK _ _ hk
    · exact hk.elim
end Go.Cv
