/- A calculus for calls of the program: canonical values and heaps, and what each operation, loop and call does to them; no condition on the program. -/
import Derived.Test.YtphpngpfllealaaCv10
namespace Go.Cv
open Go.RowKit

/-! ### One outcome -/
theorem cond_ex {b : Bool} {X : Prop} (hk : cond b X False) : b = true ∧ X := by
  cases b
  · exact hk.elim
  · exact ⟨rfl, hk⟩
theorem cond_mk {b : Bool} {X : Prop} (hb : b = true) (x : X) : cond b X False := by
  subst hb; exact x

theorem rest_ex {P : Program} {T : Nat → Option TI} {ev : Operand → V} {J : V → Prop} (op : Op) (hr : restOp op = true) (hk : opP P T ev [] (fun v _ => J v) op) : ∃ v, J v ∧ opP P T ev [] (fun v' _ => v' = v) op := by
  cases op <;> simp only [restOp, Bool.false_eq_true] at hr <;> simp only [opP] at hk ⊢
  case build => split at hk <;> first | exact ⟨_, hk, rfl⟩ | exact hk.elim
  case slice =>
    split at hk
    · unfold sliceP at hk ⊢
      split at hk
      · split at hk
        · split at hk
          · exact ⟨_, hk.2, hk.1, rfl⟩
          · exact hk.elim
        · split at hk
          · obtain ⟨hb, hk⟩ := cond_ex hk; exact ⟨_, hk.2, cond_mk hb ⟨hk.1, rfl⟩⟩
          · exact hk.elim
        · split at hk
          · exact ⟨_, hk, rfl⟩
          · exact hk.elim
        · exact hk.elim
      · exact hk.elim
    · exact hk.elim
  case index =>
    unfold indexP at hk ⊢
    split at hk
    · split at hk
      · split at hk
        · obtain ⟨h1, hk⟩ := hk
          split at hk
          · exact ⟨_, hk, h1, rfl⟩
          · exact hk.elim
        · exact hk.elim
      · obtain ⟨b, h1, h2⟩ := hk
        exact ⟨_, h2, b, h1, rfl⟩
      · exact hk.elim
    · exact hk.elim
  case indexAddr =>
    split at hk
    · split at hk
      · split at hk
        · obtain ⟨hb, cs, h1, h2⟩ := cond_ex hk; exact ⟨_, h2, cond_mk hb ⟨cs, h1, rfl⟩⟩
        · exact hk.elim
      · split at hk
        · obtain ⟨hb, hk⟩ := cond_ex hk; exact ⟨_, hk.2, cond_mk hb ⟨hk.1, rfl⟩⟩
        · exact hk.elim
      · split at hk
        · exact ⟨_, hk.2, hk.1, rfl⟩
        · exact hk.elim
      · split at hk
        · exact ⟨_, hk.2, hk.1, rfl⟩
        · exact hk.elim
      · exact hk.elim
    · exact hk.elim
  case binOp =>
    split at hk
    · obtain ⟨hb, hk⟩ := cond_ex hk; exact ⟨_, hk.2, cond_mk hb ⟨hk.1, rfl⟩⟩
    · obtain ⟨hb, hk⟩ := cond_ex hk; exact ⟨_, hk.2, cond_mk hb ⟨hk.1, rfl⟩⟩
    · exact ⟨_, hk.2, hk.1, rfl⟩
    · exact ⟨_, hk.2, hk.1, rfl⟩
    · split at hk
      · exact ⟨_, hk, rfl⟩
      · exact hk.elim
  all_goals
    split at hk
    · exact ⟨_, hk, rfl⟩
    · exact hk.elim

theorem buildSlice_ex {T : Nat → Option TI} {t n : Nat} {ps : List (Nat × V)} {J : V → Prop} (hk : buildSliceP T t n ps [] fun v _ => cond (isPsl v) (J v) False) : ∃ v, J v ∧ buildSliceP T t n ps [] fun v' _ => cond (isPsl v') (v' = v) False := by
  unfold buildSliceP at hk ⊢
  split at hk
  · split at hk
    · split at hk
      · split at hk
        · simp only [fl2_eq, fll_eq] at hk ⊢
          generalize Nat.ble _ _ = b1 at hk ⊢
          cases b1
          · exact hk.elim
          · simp only [cond_true] at hk ⊢
            generalize List.all _ _ = b2 at hk ⊢
            cases b2
            · exact hk.elim
            · exact ⟨_, hk, rfl⟩
        · exact hk.elim
      · exact hk.elim
    · exact hk.elim
  · exact hk.elim

theorem buildSliceP_mono2 {T : Nat → Option TI} {t n : Nat} {ps : List (Nat × V)} {h : Heap} {K K' : V → Heap → Prop} (hK : ∀ v h, K v h → K' v h) (hk : buildSliceP T t n ps h K) : buildSliceP T t n ps h K' := buildSliceP_mono hK hk

theorem opQ_rest {P : Program} {T : Nat → Option TI} {ev : Operand → V} {h : Heap} {nid : Nat} {K : V → List (Nat × Blk) → List Nat → Prop} (op : Op) (hr : restOp op = true) : opQ P T ev h nid K op = opP P T ev [] (fun v _ => K v [] []) op := by
  cases op <;> first | rfl | (cases hr; done)

theorem opQ_ex {P : Program} {T : Nat → Option TI} {ev : Operand → V} {h : Heap} {nid : Nat} {K : V → List (Nat × Blk) → List Nat → Prop} (op : Op) (hk : opQ P T ev h nid K op) :
    ∃ v wr acc, K v wr acc ∧ opQ P T ev h nid (fun v' wr' acc' => v' = v ∧ wr' = wr ∧ acc' = acc) op := by
  have hrest : ∀ (op : Op), restOp op = true → opP P T ev [] (fun v _ => K v [] []) op → ∃ v wr acc, K v wr acc ∧ opP P T ev [] (fun v' _ => v' = v ∧ [] = wr ∧ [] = acc) op := fun op hr hk => by
    obtain ⟨v, h1, h2⟩ := rest_ex (J := fun v => K v [] []) op hr hk
    exact ⟨v, [], [], h1, opP_mono (fun _ _ e => ⟨e, rfl, rfl⟩) op h2⟩
  by_cases hr : restOp op = true
  · rw [opQ_rest op hr] at hk
    obtain ⟨v, wr, acc, h1, h2⟩ := hrest op hr hk
    exact ⟨v, wr, acc, h1, by rw [opQ_rest op hr]; exact h2⟩
  cases op <;> try (exact (hr rfl).elim)
  case alloc t =>
    simp only [opQ] at hk ⊢
    split at hk
    · split at hk
      · exact ⟨_, _, _, hk, rfl, rfl, rfl⟩
      · exact hk.elim
    · exact hk.elim
  case box t x =>
    simp only [opQ] at hk ⊢
    split at hk
    · exact ⟨_, _, _, hk, rfl, rfl, rfl⟩
    · exact hk.elim
  case load t x =>
    simp only [opQ] at hk ⊢
    split at hk
    · split at hk
      · split at hk
        · exact ⟨_, _, _, hk, rfl, rfl, rfl⟩
        · exact hk.elim
      · exact hk.elim
    · split at hk
      · exact ⟨_, _, _, hk, rfl, rfl, rfl⟩
      · exact hk.elim
    · exact hk.elim
  case store t x y =>
    simp only [opQ] at hk ⊢
    split at hk
    · split at hk
      · obtain ⟨hb, hk⟩ := cond_ex hk
        exact ⟨_, _, _, hk, cond_mk hb ⟨rfl, rfl, rfl⟩⟩
      · exact hk.elim
    · exact hk.elim
  case call c =>
    simp only [opQ] at hk ⊢
    split at hk
    · exact hk.elim
    · split at hk
      · rw [fl2_eq] at hk
        obtain ⟨v, h1, h2⟩ := hk
        refine ⟨v, [], [], h2, ?_⟩
        rw [fl2_eq]
        exact ⟨v, h1, rfl, rfl, rfl⟩
      · exact hk.elim
    · split at hk
      · exact ⟨_, _, _, hk, rfl, rfl, rfl⟩
      · exact hk.elim
    · exact hk.elim
  case buildSlice t n parts =>
    simp only [opQ] at hk ⊢
    obtain ⟨v, h1, h2⟩ := buildSlice_ex (J := fun v => K v [] []) hk
    exact ⟨v, [], [], h1, buildSliceP_mono (fun v' _ e => cond_mono (fun e => ⟨e, rfl, rfl⟩) e) h2⟩

/-! ### An operation looks at its operands alone -/
section
variable {P : Program} {T : Nat → Option TI} {ev ev' : Operand → V}

theorem map_ev (xs : Array Operand) (h : ∀ x ∈ xs, ev x = ev' x) : xs.toList.map ev = xs.toList.map ev' := List.map_congr_left fun x hx => h x (by simpa using hx)

theorem pureOp_ev (op : Op) (h : ∀ x ∈ op.operands, ev x = ev' x) : pureOp T ev op = pureOp T ev' op := by
  cases op <;> simp only [pureOp]
  case move x => rw [h x (by simp [Op.operands])]
  case assign x => rw [h x (by simp [Op.operands])]
  case pick c a b => rw [h c (by simp [Op.operands]), h a (by simp [Op.operands]), h b (by simp [Op.operands])]
  case binOp op t x y ty => rw [h x (by simp [Op.operands]), h y (by simp [Op.operands])]
  case unOp op t x => rw [h x (by simp [Op.operands])]
  case convert s d x => rw [h x (by simp [Op.operands])]
  case makeFunc fn first caps => rw [map_ev first (fun x hx => h x (by simp [Op.operands, hx])), map_ev caps (fun x hx => h x (by simp [Op.operands, hx]))]
  case nilCheck x => rw [h x (by simp [Op.operands])]
  case fieldAddr s x f => rw [h x (by simp [Op.operands])]
  case field s x f => rw [h x (by simp [Op.operands])]
  case extract x i => rw [h x (by simp [Op.operands])]
  case call c =>
    split
    · rename_i b hb
      rw [map_ev c.args (fun x hx => h x (by simp [Op.operands, Call.operands, hb, hx]))]
    · rfl

theorem parts_ev (parts : Array (Nat × Operand)) (h : ∀ x ∈ (parts.toList.map (·.2)).toArray, ev x = ev' x) : (parts.toList.map fun p => (p.1, ev p.2)) = (parts.toList.map fun p => (p.1, ev' p.2)) :=
  List.map_congr_left fun p hp => by rw [h p.2 (by simp only [List.mem_toArray, List.mem_map]; exact ⟨p, hp, rfl⟩)]

theorem opP_ev {h : Heap} {K : V → Heap → Prop} (op : Op) (hr : restOp op = true) (he : ∀ x ∈ op.operands, ev x = ev' x) : opP P T ev h K op = opP P T ev' h K op := by
  have hp := pureOp_ev (T := T) op he
  cases op <;> simp only [restOp, Bool.false_eq_true] at hr <;> simp only [opP]
  case build t parts => rw [parts_ev parts he]
  case slice t x lo hi mx =>
    have h1 : lo.map ev = lo.map ev' := by
      cases lo with
      | none => rfl
      | some y => simp only [Option.map_some]; rw [he y (by simp [Op.operands])]
    have h2 : hi.map ev = hi.map ev' := by
      cases hi with
      | none => rfl
      | some y => simp only [Option.map_some]; rw [he y (by simp [Op.operands])]
    rw [he x (by simp [Op.operands]), h1, h2]
  case index t x i => rw [he x (by simp [Op.operands]), he i (by simp [Op.operands])]
  case indexAddr t x i => rw [he x (by simp [Op.operands]), he i (by simp [Op.operands])]
  case binOp op t x y ty => rw [he x (by simp [Op.operands]), he y (by simp [Op.operands])]
  all_goals (first | rw [hp] | rfl)

theorem opQ_ev {h : Heap} {nid : Nat} {K : V → List (Nat × Blk) → List Nat → Prop} (op : Op) (he : ∀ x ∈ op.operands, ev x = ev' x) : opQ P T ev h nid K op = opQ P T ev' h nid K op := by
  by_cases hr : restOp op = true
  · rw [opQ_rest op hr, opQ_rest op hr]; exact opP_ev op hr he
  cases op <;> try (exact (hr rfl).elim)
  case alloc t => rfl
  case box t x => simp only [opQ]; rw [he x (by simp [Op.operands])]
  case load t x => simp only [opQ]; rw [he x (by simp [Op.operands])]
  case store t x y => simp only [opQ]; rw [he x (by simp [Op.operands]), he y (by simp [Op.operands])]
  case call c =>
    have hargs := map_ev c.args (fun x hx => he x (by simp [Op.operands, Call.operands, hx]))
    simp only [opQ]
    split
    · rfl
    · rename_i f hf
      rw [he f (by simp [Op.operands, Call.operands, hf]), hargs]
    · rw [hargs]
    · rfl
  case buildSlice t n parts => simp only [opQ]; rw [parts_ev parts he]

theorem opQ_heap {h h' : Heap} {nid : Nat} {v : V} {wr : List (Nat × Blk)} {acc : List Nat} (op : Op) (hh : ∀ i ∈ acc, hget h i = hget h' i) (hk : opQ P T ev h nid (fun v' wr' acc' => v' = v ∧ wr' = wr ∧ acc' = acc) op) :
    opQ P T ev h' nid (fun v' wr' acc' => v' = v ∧ wr' = wr ∧ acc' = acc) op := by
  by_cases hr : restOp op = true
  · rw [opQ_rest op hr] at hk ⊢; exact hk
  cases op <;> try (exact (hr rfl).elim)
  case load t x =>
    simp only [opQ] at hk ⊢
    split at hk
    · rename_i i q hx
      split at hk
      · rename_i cs hc
        split at hk
        · rename_i u hu
          have := hh i (by rw [← hk.2.2]; simp)
          rw [← this, hc]
          simp only [hu]
          exact hk
        · exact hk.elim
      · exact hk.elim
    · exact hk
    · exact hk.elim
  case store t x y =>
    simp only [opQ] at hk ⊢
    split at hk
    · rename_i i q hx
      split at hk
      · rename_i cs ti vs hc h1 h2
        obtain ⟨hb, hk⟩ := cond_ex hk
        have := hh i (by rw [← hk.2.2]; simp)
        rw [← this, hc]
        simp only [h1, h2]
        exact cond_mk hb hk
      · exact hk.elim
    · exact hk.elim
  all_goals exact hk

theorem opQ_wr {h : Heap} {nid : Nat} {v : V} {wr : List (Nat × Blk)} {acc : List Nat} (op : Op) (hk : opQ P T ev h nid (fun v' wr' acc' => v' = v ∧ wr' = wr ∧ acc' = acc) op) : ∀ p ∈ wr, p.1 ∈ acc ∧ (p.1 = nid ∨ hget h p.1 ≠ none) := by
  have hrest : ∀ (op : Op), restOp op = true → opP P T ev [] (fun v' _ => v' = v ∧ [] = wr ∧ [] = acc) op → ∀ p ∈ wr, p.1 ∈ acc ∧ (p.1 = nid ∨ hget h p.1 ≠ none) := fun op hr hk p hp => by
    obtain ⟨_, h1, _⟩ := rest_ex (J := fun v' => v' = v ∧ [] = wr ∧ [] = acc) op hr hk
    rw [← h1.2.1] at hp
    cases hp
  by_cases hr : restOp op = true
  · rw [opQ_rest op hr] at hk; exact hrest op hr hk
  cases op <;> try (exact (hr rfl).elim)
  case alloc t =>
    simp only [opQ] at hk
    split at hk
    · split at hk
      · obtain ⟨_, rfl, rfl⟩ := hk
        intro p hp
        simp only [List.mem_singleton] at hp
        subst hp; exact ⟨by simp, .inl rfl⟩
      · exact hk.elim
    · exact hk.elim
  case box t x =>
    simp only [opQ] at hk
    split at hk
    · obtain ⟨_, rfl, rfl⟩ := hk
      intro p hp
      simp only [List.mem_singleton] at hp
      subst hp; exact ⟨by simp, .inl rfl⟩
    · exact hk.elim
  case load t x =>
    simp only [opQ] at hk
    split at hk
    · split at hk
      · split at hk
        · obtain ⟨_, rfl, rfl⟩ := hk; intro p hp; cases hp
        · exact hk.elim
      · exact hk.elim
    · split at hk
      · obtain ⟨_, rfl, rfl⟩ := hk; intro p hp; cases hp
      · exact hk.elim
    · exact hk.elim
  case store t x y =>
    simp only [opQ] at hk
    split at hk
    · split at hk
      · rename_i cs ti vs hc h1 h2
        obtain ⟨hb, _, rfl, rfl⟩ := cond_ex hk
        intro p hp
        simp only [List.mem_singleton] at hp
        subst hp; exact ⟨by simp, .inr (by rw [hc]; simp)⟩
      · exact hk.elim
    · exact hk.elim
  case call c =>
    simp only [opQ] at hk
    split at hk
    · exact hk.elim
    · split at hk
      · rw [fl2_eq] at hk; obtain ⟨_, _, _, rfl, rfl⟩ := hk; intro p hp; cases hp
      · exact hk.elim
    · split at hk
      · obtain ⟨_, rfl, rfl⟩ := hk; intro p hp; cases hp
      · exact hk.elim
    · exact hk.elim
  case buildSlice t n parts =>
    simp only [opQ] at hk
    obtain ⟨_, h1, _⟩ := buildSlice_ex (J := fun v' => v' = v ∧ [] = wr ∧ [] = acc) hk
    intro p hp
    rw [← h1.2.1] at hp
    cases hp
end
end Go.Cv
