/- A calculus for calls of the program: canonical values and heaps, and what each operation, loop and call does to them; no condition on the program. -/
import Derived.Test.YtifdekgmoekegaaDoorCx7h
namespace Go.Cx
open Go.RowKit

/-! ### What an operation hangs on -/
theorem rdE_local {hg hg' : Nat → Option Blk} {sz : Nat} {x : V} {el : El} (h : rdE hg sz x = some el) (hh : ∀ i ∈ el.acc, hg i = hg' i) : rdE hg' sz x = some el := by
  unfold rdE at h ⊢
  split at h <;> first | exact h | skip
  · split at h
    · rename_i e cs hb
      simp only [Option.some.injEq] at h
      subst h
      rw [hh _ (List.mem_singleton.2 rfl)] at hb
      simp only [hb]
    · cases h
  · split at h
    · rename_i e cs hb
      simp only [Option.some.injEq] at h
      subst h
      rw [hh _ (List.mem_singleton.2 rfl)] at hb
      simp only [hb]
    · cases h

theorem rdE_psl {hg : Nat → Option Blk} {sz : Nat} {x : V} {el : El} {ys : List (List V)} (h : rdE hg sz x = some el) (hy : elemsOf sz x = some ys) : el.acc = [] := by
  unfold elemsOf at hy
  split at hy
  · simp only [rdE, Option.some.injEq] at h; subst h; rfl
  · simp only [rdE, Option.some.injEq] at h; subst h; rfl
  · cases hy

theorem appendF_local {T : Nat → Option TI} {md : Bool} {t xt : Nat} {s x : V} {hg hg' : Nat → Option Blk} {nid : Nat} {out : Out} (h : appendF T md t xt s x hg nid = some out) (hh : ∀ i ∈ out.acc, hg i = hg' i) : appendF T md t xt s x hg' nid = some out := by
  unfold appendF at h ⊢
  split at h
  · rename_i ti xi hti hxi
    split at h
    · rename_i e hk
      split at h
      · rename_i ei hei
        split at h
        · rename_i el hel
          have rd : (∀ i ∈ el.acc, i ∈ out.acc) → rdE hg' ei.size x = some el := fun hm => rdE_local hel (fun i hi => hh i (hm i hi))
          replace h := cond_some h
          obtain ⟨hsk, h⟩ := h
          simp only [hk, hei, hsk, cond_true]
          cases h0 : Nat.beq el.n 0 with
          | true =>
            rw [h0] at h
            simp only [cond_true] at h
            have h' := cond_some h
            obtain ⟨hsl, h'⟩ := h'
            simp only [Option.some.injEq] at h'
            rw [rd (fun i hi => by rw [← h']; exact hi)]
            simp only [h0, cond_true]
            exact h
          | false =>
            rw [h0] at h
            simp only [cond_false] at h
            have el' : (∀ i ∈ el.acc, i ∈ out.acc) := by
              split at h
              · cases md
                · simp only [cond_false] at h
                  split at h
                  · rename_i ys hy
                    rw [rdE_psl hel hy]; intro i hi; cases hi
                  · cases h
                · simp only [cond_true, Option.some.injEq] at h
                  rw [← h]; intro i hi; simp only [newG]; exact List.mem_cons_of_mem _ (List.mem_append_right _ hi)
              · cases md
                · simp only [cond_false] at h
                  split at h
                  · rename_i ys hy
                    rw [rdE_psl hel hy]; intro i hi; cases hi
                  · cases h
                · simp only [cond_true, Option.some.injEq] at h
                  rw [← h]; intro i hi; simp only [newG]; exact List.mem_cons_of_mem _ (List.mem_append_right _ hi)
              · split at h
                · rename_i ys _ _ hy _
                  rw [rdE_psl hel hy]; intro i hi; cases hi
                · cases h
              · split at h
                · generalize Nat.ble _ _ = b at h
                  cases b
                  · simp only [cond_false, Option.some.injEq] at h
                    rw [← h]; intro i hi; simp only [newG]; exact List.mem_cons_of_mem _ (List.mem_append_right _ hi)
                  · simp only [cond_true, Option.some.injEq] at h
                    rw [← h]; intro i hi; exact List.mem_cons_of_mem _ hi
                · cases h
              · rename_i id sz o n lo ex ver
                split at h
                · generalize Nat.ble _ _ = b at h
                  cases b
                  · simp only [cond_false] at h
                    cases ex
                    · simp only [cond_false, Option.some.injEq] at h
                      rw [← h]; intro i hi; exact List.mem_cons_of_mem _ hi
                    · simp only [cond_true, Option.some.injEq] at h
                      rw [← h]; intro i hi; simp only [newG]; exact List.mem_cons_of_mem _ (List.mem_append_right _ hi)
                  · simp only [cond_true, Option.some.injEq] at h
                    rw [← h]; intro i hi; exact List.mem_cons_of_mem _ hi
                · cases h
              · cases h
            rw [rd el']
            simp only [h0, cond_false]
            split at h
            · exact h
            · exact h
            · split at h
              · rename_i ys s' n hy hb
                have h2 := h
                simp only [Option.some.injEq] at h2
                rw [hh _ (by rw [← h2]; exact List.mem_singleton.2 rfl)] at hb
                simp only [hy, hb]
                exact h
              · cases h
            · split at h
              · rename_i e0 cs hb
                rw [hh _ (by
                  generalize Nat.ble _ _ = b at h
                  cases b
                  · simp only [cond_false, Option.some.injEq] at h
                    rw [← h]; simp [newG]
                  · simp only [cond_true, Option.some.injEq] at h
                    rw [← h]; simp)] at hb
                simp only [hb]
                exact h
              · cases h
            · rename_i id sz o n lo ex ver
              split at h
              · rename_i ver' e0 s0 cs hb
                rw [hh _ (by
                  generalize Nat.ble _ _ = b at h
                  cases b
                  · simp only [cond_false] at h
                    cases ex
                    · simp only [cond_false, Option.some.injEq] at h
                      rw [← h]; simp
                    · simp only [cond_true, Option.some.injEq] at h
                      rw [← h]; simp [newG]
                  · simp only [cond_true, Option.some.injEq] at h
                    rw [← h]; simp)] at hb
                simp only [hb]
                exact h
              · cases h
            · cases h
        · cases h
      · cases h
    · cases h
  · cases h

theorem opF_local {P : Program} {T : Nat → Option TI} {md : Bool} {ev : Operand → V} {hg hg' : Nat → Option Blk} {nid : Nat} {op : Op} {out : Out} (h : opF P T md ev hg nid op = some out) (hh : ∀ i ∈ out.acc, hg i = hg' i) : opF P T md ev hg' nid op = some out := by
  cases op
  case load t x =>
    simp only [opF, loadF] at h ⊢
    split at h <;> first | exact h | skip
    · split at h
      · rename_i hb
        split at h
        · simp only [Option.some.injEq] at h
          subst h
          rw [hh _ (List.mem_singleton.2 rfl)] at hb
          simp only [hb, *]
        · cases h
      · cases h
    · split at h
      · rename_i hb
        split at h
        · simp only [Option.some.injEq] at h
          subst h
          rw [hh _ (List.mem_singleton.2 rfl)] at hb
          simp only [hb, *]
        · cases h
      · cases h
  case store t x y =>
    simp only [opF, storeF] at h ⊢
    split at h
    · split at h
      · split at h
        · rename_i hb
          simp only [Option.some.injEq] at h
          subst h
          rw [hh _ (List.mem_singleton.2 rfl)] at hb
          simp only [hb, *]
        · cases h
      · split at h
        · rename_i hb
          simp only [Option.some.injEq] at h
          subst h
          rw [hh _ (List.mem_singleton.2 rfl)] at hb
          simp only [hb, *]
        · cases h
      · cases h
    · cases h
  case convert s d x =>
    simp only [opF, convF] at h ⊢
    split at h
    · split at h
      · split at h
        · rename_i ei el hei hel
          split at h
          · rename_i hk
            have h2 := h
            simp only [Option.some.injEq] at h2
            have := rdE_local hel (hg' := hg') (fun i hi => hh i (by rw [← h2]; exact hi))
            simp only [*]
          · cases h
        · cases h
      · split at h
        · simp only [*]
        · split at h
          · rename_i hb
            simp only [Option.some.injEq] at h
            subst h
            rw [hh _ (List.mem_singleton.2 rfl)] at hb
            simp only [hb, *]
          · cases h
        · cases h
      · split at h
        · simp only [*]
        · split at h
          · rename_i hb
            simp only [Option.some.injEq] at h
            subst h
            rw [hh _ (List.mem_singleton.2 rfl)] at hb
            simp only [hb, *]
          · cases h
        · cases h
      · simp only [*]
    · cases h
  case insert t m k v =>
    simp only [opF, insertF] at h ⊢
    split at h
    · split at h
      · rename_i hb
        split at h
        · simp only [Option.some.injEq] at h
          subst h
          rw [hh _ (List.mem_singleton.2 rfl)] at hb
          simp only [hb, *]
        · cases h
      · cases h
    · cases h
  case mapUpdate t m k v =>
    simp only [opF, insertF] at h ⊢
    split at h
    · split at h
      · rename_i hb
        split at h
        · simp only [Option.some.injEq] at h
          subst h
          rw [hh _ (List.mem_singleton.2 rfl)] at hb
          simp only [hb, *]
        · cases h
      · cases h
    · cases h
  case lookup t m k ok =>
    simp only [opF, lookupF] at h ⊢
    split at h
    · split at h
      · split at h
        · rename_i hb
          simp only [Option.some.injEq] at h
          subst h
          rw [hh _ (List.mem_singleton.2 rfl)] at hb
          simp only [hb, *]
        · rename_i hb
          simp only [Option.some.injEq] at h
          subst h
          rw [hh _ (List.mem_singleton.2 rfl)] at hb
          simp only [hb, *]
        · cases h
      · cases h
    · cases h
  case range t x =>
    simp only [opF, rangeF] at h ⊢
    split at h
    · exact h
    · split at h
      · rename_i hb
        simp only [Option.some.injEq] at h
        subst h
        rw [hh _ (by simp)] at hb
        simp only [hb, *]
      · cases h
    · cases h
  case next it b =>
    cases b
    · exact h
    · simp only [opF, nextStrF] at h ⊢
      split at h
      · split at h
        · rename_i s pos hb
          rw [hh _ (by
            generalize Nat.blt _ _ = b at h
            cases b
            · simp only [cond_false, Option.some.injEq] at h
              rw [← h]; simp
            · simp only [cond_true, Option.some.injEq] at h
              rw [← h]; simp)] at hb
          simp only [hb]
          exact h
        · cases h
      · cases h
  case entry it =>
    simp only [opF, entryF] at h ⊢
    split at h
    · split at h
      · rename_i hb
        split at h
        · rename_i hm hl
          split at h
          · simp only [Option.some.injEq] at h
            subst h
            rw [hh _ (by simp)] at hb hm
            simp only [hb, hm, *]
          · cases h
        · cases h
      · cases h
    · cases h
  case call c =>
    simp only [opF] at h ⊢
    split at h
    · split at h
      · exact appendF_local h hh
      · cases h
    · split at h
      · unfold copyF at h ⊢
        split at h
        · split at h
          · split at h
            · split at h
              · rename_i el hel
                have rd : (∀ i ∈ el.acc, i ∈ out.acc) → rdE hg' _ _ = some el := fun hm => rdE_local hel (fun i hi => hh i (hm i hi))
                split at h
                · have h2 := h
                  simp only [Option.some.injEq] at h2
                  have := rd (fun i hi => by rw [← h2]; exact hi)
                  simp only [*]
                · split at h
                  · rename_i hb
                    split at h
                    · simp only [Option.some.injEq] at h
                      have := rd (fun i hi => by rw [← h]; exact List.mem_cons_of_mem _ hi)
                      rw [hh _ (by rw [← h]; simp)] at hb
                      simp only [hb, *]
                    · cases h
                  · cases h
                · split at h
                  · rename_i hb
                    split at h
                    · simp only [Option.some.injEq] at h
                      have := rd (fun i hi => by rw [← h]; exact List.mem_cons_of_mem _ hi)
                      rw [hh _ (by rw [← h]; simp)] at hb
                      simp only [hb, *]
                    · cases h
                  · cases h
                · cases h
              · cases h
            · cases h
          · cases h
        · cases h
      · cases h
    · split at h
      · unfold clearF at h ⊢
        split at h
        · split at h
          · split at h
            · split at h
              · split at h
                · rename_i hb
                  split at h
                  · simp only [Option.some.injEq] at h
                    subst h
                    rw [hh _ (by simp)] at hb
                    simp only [hb, *]
                  · cases h
                · cases h
              · cases h
            · cases h
          · cases h
        · cases h
      · cases h
    · split at h
      · unfold unsafeStrF at h ⊢
        split at h
        · rename_i n _
          cases hd : decide (n = 0)
          · simp only [hd, cond_false] at h ⊢
            split at h
            · split at h
              · rename_i hb hu
                simp only [Option.some.injEq] at h
                subst h
                rw [hh _ (by simp)] at hb
                simp only [hb, *]
              · cases h
            · cases h
          · simp only [hd, cond_true] at h ⊢
            exact h
        · cases h
      · cases h
    · exact h
    · cases h
  case makeMap t rs => cases rs <;> exact h
  all_goals exact h

theorem opF_ev {P : Program} {T : Nat → Option TI} {md : Bool} {ev ev' : Operand → V} {hg : Nat → Option Blk} {nid : Nat} (op : Op) (hev : ∀ x ∈ op.operands, ev x = ev' x) : opF P T md ev hg nid op = opF P T md ev' hg nid op := by
  have mp : ∀ (l : Array Operand), (∀ x ∈ l, ev x = ev' x) → l.toList.map ev = l.toList.map ev' := fun l hl => List.map_congr_left (fun x hx => hl x (by simpa using hx))
  have mo : ∀ (x : Option Operand), (∀ y ∈ x, ev y = ev' y) → x.map ev = x.map ev' := fun x hx => by
    cases x with
    | none => rfl
    | some y => simp only [Option.map_some, hx y rfl]
  have mpp : ∀ (l : Array (Nat × Operand)), (∀ x ∈ (l.toList.map (·.2)).toArray, ev x = ev' x) → (l.toList.map fun p => (p.1, ev p.2)) = l.toList.map fun p => (p.1, ev' p.2) := fun l hl => List.map_congr_left (fun p hp => by
    rw [hl p.2 (by simp; exact ⟨p.1, by simpa using hp⟩)])
  cases op <;> simp only [Op.operands] at hev
  case call c =>
    obtain ⟨callee, args, ts⟩ := c
    have ha : args.toList.map ev = args.toList.map ev' := mp args (fun x hx => hev x (by simp [Call.operands, hx]))
    cases callee with
    | value f => rfl
    | invoke a b => rfl
    | builtin b => simp only [opF, ha]
  case slice t x lo hi mx =>
    have h0 := hev x (by simp)
    have h1 := mo lo (fun y hy => hev y (by simp at hy; simp [hy]))
    have h2 := mo hi (fun y hy => hev y (by simp at hy; simp [hy]))
    have h3 := mo mx (fun y hy => hev y (by simp at hy; simp [hy]))
    simp only [opF, pureO, h0, h1, h2, h3]
  case build t ps => simp only [opF, mpp ps hev]
  case buildSlice t n ps => simp only [opF, mpp ps hev]
  case makeFunc fn first caps =>
    have h1 := mp first (fun x hx => hev x (by simp [hx]))
    have h2 := mp caps (fun x hx => hev x (by simp [hx]))
    simp only [opF, pureO, h1, h2]
  case makeMap t rs => cases rs <;> rfl
  case next it b => cases b <;> simp only [opF, pureO, hev it (by simp)]
  all_goals first | rfl | (simp at hev; simp [opF, pureO, hev]; done)

theorem appendF_wr {T : Nat → Option TI} {md : Bool} {t xt : Nat} {s x : V} {hg : Nat → Option Blk} {nid : Nat} {out : Out} (h : appendF T md t xt s x hg nid = some out) : ∀ p ∈ out.wr, p.1 ∈ out.acc ∧ ((nid ≤ p.1 ∧ p.1 < nid + out.nw) ∨ hg p.1 ≠ none) := by
  have ng : ∀ {ei : TI} {e : Nat} {el : El} {ok : Bool} {old : List V} {n : Nat} {acc : List Nat}, newG ei e el ok old n nid acc = out → ∀ p ∈ out.wr, p.1 ∈ out.acc ∧ ((nid ≤ p.1 ∧ p.1 < nid + out.nw) ∨ hg p.1 ≠ none) := fun h p hp => by
    subst h
    simp only [newG, List.mem_singleton] at hp
    subst hp
    exact ⟨by simp [newG], .inl ⟨Nat.le_refl _, by simp [newG]⟩⟩
  unfold appendF at h
  split at h
  · split at h
    · split at h
      · split at h
        · replace h := (cond_some h).2
          generalize Nat.beq _ 0 = b0 at h
          cases b0 with
          | true =>
            simp only [cond_true] at h
            have h := (cond_some h).2
            simp only [Option.some.injEq] at h
            subst h
            intro p hp; cases hp
          | false =>
            simp only [cond_false] at h
            split at h
            · cases md
              · simp only [cond_false] at h
                split at h
                · simp only [Option.some.injEq] at h
                  subst h
                  intro p hp
                  simp only [List.mem_singleton] at hp
                  subst hp
                  exact ⟨by simp, .inl ⟨Nat.le_refl _, by simp⟩⟩
                · cases h
              · simp only [cond_true, Option.some.injEq] at h
                exact ng h
            · cases md
              · simp only [cond_false] at h
                split at h
                · simp only [Option.some.injEq] at h
                  subst h
                  intro p hp
                  simp only [List.mem_singleton] at hp
                  subst hp
                  exact ⟨by simp, .inl ⟨Nat.le_refl _, by simp⟩⟩
                · cases h
              · simp only [cond_true, Option.some.injEq] at h
                exact ng h
            · split at h
              · rename_i hb
                simp only [Option.some.injEq] at h
                subst h
                intro p hp
                simp only [List.mem_singleton] at hp
                subst hp
                exact ⟨by simp, .inr (by rw [hb]; simp)⟩
              · cases h
            · split at h
              · rename_i hb
                generalize Nat.ble _ _ = b at h
                cases b
                · simp only [cond_false, Option.some.injEq] at h
                  exact ng h
                · simp only [cond_true, Option.some.injEq] at h
                  subst h
                  intro p hp
                  simp only [List.mem_singleton] at hp
                  subst hp
                  exact ⟨by simp, .inr (by rw [hb]; simp)⟩
              · cases h
            · rename_i id sz o n lo ex ver
              split at h
              · rename_i hb
                generalize Nat.ble _ _ = b at h
                cases b
                · simp only [cond_false] at h
                  cases ex
                  · simp only [cond_false, Option.some.injEq] at h
                    subst h
                    intro p hp
                    simp only [List.mem_singleton] at hp
                    subst hp
                    exact ⟨by simp, .inr (by rw [hb]; simp)⟩
                  · simp only [cond_true, Option.some.injEq] at h
                    exact ng h
                · simp only [cond_true, Option.some.injEq] at h
                  subst h
                  intro p hp
                  simp only [List.mem_singleton] at hp
                  subst hp
                  exact ⟨by simp, .inr (by rw [hb]; simp)⟩
              · cases h
            · cases h
        · cases h
      · cases h
    · cases h
  · cases h

theorem opF_wr {P : Program} {T : Nat → Option TI} {md : Bool} {ev : Operand → V} {hg : Nat → Option Blk} {nid : Nat} {op : Op} {out : Out} (h : opF P T md ev hg nid op = some out) : ∀ p ∈ out.wr, p.1 ∈ out.acc ∧ ((nid ≤ p.1 ∧ p.1 < nid + out.nw) ∨ hg p.1 ≠ none) := by
  have none' : ∀ {o : Out}, o = out → o.wr = [] → ∀ p ∈ out.wr, p.1 ∈ out.acc ∧ ((nid ≤ p.1 ∧ p.1 < nid + out.nw) ∨ hg p.1 ≠ none) := fun e hw p hp => by subst e; rw [hw] at hp; cases hp
  have new' : ∀ {o : Out} {k : Blk}, o = out → o.wr = [(nid, k)] → nid ∈ o.acc → o.nw = 1 → ∀ p ∈ out.wr, p.1 ∈ out.acc ∧ ((nid ≤ p.1 ∧ p.1 < nid + out.nw) ∨ hg p.1 ≠ none) := fun e hw ha hn p hp => by
    subst e
    rw [hw, List.mem_singleton] at hp
    subst hp
    exact ⟨ha, .inl ⟨Nat.le_refl _, by rw [hn]; exact Nat.lt_succ_self _⟩⟩
  have old' : ∀ {o : Out} {i : Nat} {k k' : Blk}, o = out → o.wr = [(i, k)] → i ∈ o.acc → hg i = some k' → ∀ p ∈ out.wr, p.1 ∈ out.acc ∧ ((nid ≤ p.1 ∧ p.1 < nid + out.nw) ∨ hg p.1 ≠ none) := fun e hw ha hb p hp => by
    subst e
    rw [hw, List.mem_singleton] at hp
    subst hp
    exact ⟨ha, .inr (by rw [hb]; simp)⟩
  have pure : ∀ {op : Op}, (match pureO T ev op with | some (c, v) => some (⟨c, v, [], [], 0⟩ : Out) | none => none) = some out → ∀ p ∈ out.wr, p.1 ∈ out.acc ∧ ((nid ≤ p.1 ∧ p.1 < nid + out.nw) ∨ hg p.1 ≠ none) := fun hp => by
    split at hp
    · exact none' (Option.some.inj hp) rfl
    · cases hp
  cases op
  case alloc t =>
    simp only [opF] at h
    split at h
    · split at h
      · exact new' (Option.some.inj h) rfl (by simp) rfl
      · cases h
    · cases h
  case box t x =>
    simp only [opF] at h
    split at h
    · exact new' (Option.some.inj h) rfl (by simp) rfl
    · cases h
  case load t x =>
    simp only [opF, loadF] at h
    split at h
    · split at h
      · split at h
        · exact none' (Option.some.inj h) rfl
        · cases h
      · cases h
    · split at h
      · split at h
        · exact none' (Option.some.inj h) rfl
        · cases h
      · cases h
    · split at h
      · exact none' (Option.some.inj h) rfl
      · cases h
    · cases h
  case store t x y =>
    simp only [opF, storeF] at h
    split at h
    · split at h
      · split at h
        · rename_i hb
          exact old' (Option.some.inj h) rfl (by simp) hb
        · cases h
      · split at h
        · rename_i hb
          exact old' (Option.some.inj h) rfl (by simp) hb
        · cases h
      · cases h
    · cases h
  case build t ps =>
    simp only [opF] at h
    split at h
    · exact none' (Option.some.inj h) rfl
    · cases h
  case buildSlice t n ps =>
    simp only [opF, buildSliceF] at h
    split at h
    · split at h
      · split at h
        · split at h
          · generalize (_ && _) = b at h
            cases b
            · simp only [cond_false] at h
              exact new' (Option.some.inj h) rfl (by simp) rfl
            · simp only [cond_true] at h
              exact none' (Option.some.inj h) rfl
          · cases h
        · cases h
      · cases h
    · cases h
  case makeSlice t l c =>
    simp only [opF, makeSliceF] at h
    split at h
    · split at h
      · split at h
        · split at h
          · exact new' (Option.some.inj h) rfl (by simp) rfl
          · cases h
        · cases h
      · cases h
    · cases h
  case convert s d x =>
    simp only [opF, convF] at h
    split at h
    · split at h
      · split at h
        · split at h
          · exact none' (Option.some.inj h) rfl
          · cases h
        · cases h
      · split at h
        · exact none' (Option.some.inj h) rfl
        · split at h
          · exact none' (Option.some.inj h) rfl
          · cases h
        · cases h
      · split at h
        · exact none' (Option.some.inj h) rfl
        · split at h
          · exact none' (Option.some.inj h) rfl
          · cases h
        · cases h
      · split at h
        · exact none' (Option.some.inj h) rfl
        · cases h
    · cases h
  case makeMap t rs =>
    cases rs
    · exact new' (Option.some.inj h) rfl (by simp) rfl
    · simp only [opF] at h
      split at h
      · exact none' (Option.some.inj h) rfl
      · cases h
  case insert t m k v =>
    simp only [opF, insertF] at h
    split at h
    · split at h
      · rename_i hb
        split at h
        · exact old' (Option.some.inj h) rfl (by simp) hb
        · cases h
      · cases h
    · cases h
  case mapUpdate t m k v =>
    simp only [opF, insertF] at h
    split at h
    · split at h
      · rename_i hb
        split at h
        · exact old' (Option.some.inj h) rfl (by simp) hb
        · cases h
      · cases h
    · cases h
  case lookup t m k ok =>
    simp only [opF, lookupF] at h
    split at h
    · split at h
      · split at h
        · exact none' (Option.some.inj h) rfl
        · exact none' (Option.some.inj h) rfl
        · cases h
      · cases h
    · cases h
  case range t x =>
    simp only [opF, rangeF] at h
    split at h
    · split at h
      · exact new' (Option.some.inj h) rfl (by simp) rfl
      · cases h
    · split at h
      · exact new' (Option.some.inj h) rfl (by simp) rfl
      · cases h
    · cases h
  case next it b =>
    cases b
    · simp only [opF] at h
      split at h
      · exact none' (Option.some.inj h) rfl
      · cases h
    · simp only [opF, nextStrF] at h
      split at h
      · split at h
        · rename_i hb
          generalize Nat.blt _ _ = b at h
          cases b
          · simp only [cond_false] at h
            exact none' (Option.some.inj h) rfl
          · simp only [cond_true] at h
            exact old' (Option.some.inj h) rfl (by simp) hb
        · cases h
      · cases h
  case entry it =>
    simp only [opF, entryF] at h
    split at h
    · split at h
      · split at h
        · split at h
          · exact none' (Option.some.inj h) rfl
          · cases h
        · cases h
      · cases h
    · cases h
  case call c =>
    simp only [opF] at h
    split at h
    · split at h
      · exact appendF_wr h
      · cases h
    · split at h
      · unfold copyF at h
        split at h
        · split at h
          · split at h
            · split at h
              · split at h
                · exact none' (Option.some.inj h) rfl
                · split at h
                  · rename_i hb
                    split at h
                    · exact old' (Option.some.inj h) rfl (by simp) hb
                    · cases h
                  · cases h
                · split at h
                  · rename_i hb
                    split at h
                    · exact old' (Option.some.inj h) rfl (by simp) hb
                    · cases h
                  · cases h
                · cases h
              · cases h
            · cases h
          · cases h
        · cases h
      · cases h
    · split at h
      · unfold clearF at h
        split at h
        · split at h
          · split at h
            · split at h
              · split at h
                · rename_i hb
                  split at h
                  · exact old' (Option.some.inj h) rfl (by simp) hb
                  · cases h
                · cases h
              · cases h
            · cases h
          · cases h
        · cases h
      · cases h
    · split at h
      · unfold unsafeStrF at h
        split at h
        · rename_i n _
          cases hd : decide (n = 0)
          · simp only [hd, cond_false] at h
            split at h
            · split at h
              · rename_i hb hu
                exact old' (Option.some.inj h) rfl (by simp) hb
              · cases h
            · cases h
          · simp only [hd, cond_true] at h
            split at h <;> first | (cases h; done) | exact none' (Option.some.inj h) rfl
        · cases h
      · cases h
    · split at h
      · exact none' (Option.some.inj h) rfl
      · cases h
    · cases h
  all_goals
    simp only [opF] at h
    split at h
    · exact none' (Option.some.inj h) rfl
    · cases h
end Go.Cx
