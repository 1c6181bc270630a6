/- A calculus for calls of the program: canonical values and heaps, and what each operation, loop and call does to them; no condition on the program. -/
import Derived.Test.YtphpngpfllealaaCv14
namespace Go.Cv
open Go.RowKit

/-! ### Runs, by reckoning alone: what a call with values that are all known comes to -/
abbrev R := Option (X × List V × Heap)
abbrev CallE := FuncId → List V → Heap → (V → Heap → R) → R

def buildSliceE (T : Nat → Option TI) (t n : Nat) (parts : List (Nat × V)) (h : Heap) (K : V → Heap → R) : R :=
  match T t with
  | some ti =>
    match ti.k with
    | .slice e =>
      match T e with
      | some ei =>
        (match fillV (fun i => some (i * ei.size, ei.size)) (flatOf (n * ei.size)) parts with
        | some flat =>
          fl2 flat fun flat =>
          cond (Nat.ble (n * ei.size) 16777216)
            (cond (flat.all fun v => v.free1 && v.one) (fll (chunks ei.size flat n) fun ch => K (.psl ei.size ch .exact) h) (forceL (h ++ [some (.cells flat)]) fun h' => K (.lsl h.length ei.size 0 n n) h'))
            none
        | none => none)
      | none => none
    | _ => none
  | none => none

def sliceE (T : Nat → Option TI) (t : Nat) (x : V) (lo hi : Option V) (h : Heap) (K : V → Heap → R) : R :=
  match T t with
  | some ti =>
    match ti.k, x with
    | .str, .str s =>
      (match bndV 0 lo, bndV s.size hi with
      | some l, some m => cond (decide (0 ≤ l ∧ l ≤ m ∧ m ≤ s.size)) (K (.str (s.extract l.toNat m.toNat)) h) none
      | _, _ => none)
    | .slice e, .psl sz xs _ =>
      (match T e, bndV 0 lo, bndV xs.length hi with
      | some ei, some l, some m => cond (sz == ei.size) (cond (decide (0 ≤ l ∧ l ≤ m ∧ m ≤ xs.length)) (fll ((xs.drop l.toNat).take (m.toNat - l.toNat)) fun ys => K (.psl sz ys .any) h) none) none
      | _, _, _ => none)
    | .arr n e, .ptr id q =>
      (match T e, lo, hi with
      | some ei, none, none => K (.lsl id ei.size q n n) h
      | _, _, _ => none)
    | _, _ => none
  | none => none

def indexE (T : Nat → Option TI) (t : Nat) (x i : V) (h : Heap) (K : V → Heap → R) : R :=
  match T t with
  | some ti =>
    match ti.k, x, i with
    | .arr n e, .agg cs, .int _ m =>
      (match T e with
      | some ei => cond (decide (0 ≤ m ∧ m < n)) (match partV T e cs (m.toNat * ei.size) with | some v => K v h | none => none) none
      | none => none)
    | .str, .str s, .int _ m => cond (decide (0 ≤ m)) (match s[m.toNat]? with | some b => K (.int .u8 b.toNat) h | none => none) none
    | _, _, _ => none
  | none => none

def appendE (T : Nat → Option TI) (t xt : Nat) (s x : V) (h : Heap) (K : V → Heap → R) : R :=
  match T t, T xt with
  | some ti, some xi =>
    match ti.k, xi.k with
    | .slice e, .slice _ =>
      match T e with
      | some ei =>
        match elemsOf ei.size x with
        | some [] => (match s with | .nils => K .nils h | .psl sz xs tk => K (.psl sz xs tk) h | _ => none)
        | some (y :: ys) =>
          (match s with
          | .nils => cond (decide (0 < ei.size ∧ 0 < ei.bytes ∧ (y :: ys).length * (2 * ei.bytes) ≤ 281474976710656)) (forceL (h ++ [some (.token ei.size (y :: ys).length)]) fun h' => K (.psl ei.size (y :: ys) (.own h.length)) h') none
          | .psl sz xs .exact => cond (decide (sz = ei.size ∧ 0 < ei.size ∧ 0 < ei.bytes ∧ (xs.length + (y :: ys).length) * (2 * ei.bytes) ≤ 281474976710656)) (fll (xs ++ y :: ys) fun zs => forceL (h ++ [some (.token ei.size (xs.length + (y :: ys).length))]) fun h' => K (.psl ei.size zs (.own h.length)) h') none
          | .psl sz xs (.own id) =>
            (match hget h id with
            | some (.token s' n) => cond (decide (sz = ei.size ∧ s' = ei.size ∧ n = xs.length ∧ 0 < ei.size ∧ 0 < ei.bytes ∧ (xs.length + (y :: ys).length) * (2 * ei.bytes) ≤ 281474976710656)) (fll (xs ++ y :: ys) fun zs => forceL (h.set id (some (.token ei.size (xs.length + (y :: ys).length)))) fun h' => K (.psl ei.size zs (.own id)) h') none
            | _ => none)
          | _ => none)
        | none => none
      | none => none
    | _, _ => none
  | _, _ => none

def opE (call : CallE) (T : Nat → Option TI) (ev : Operand → V) (h : Heap) (K : V → Heap → R) : Op → R
  | .alloc t =>
    (match T t with
    | some ti => (match cellsOf ti.zero with | some cs => forceL cs fun cs => forceL (h ++ [some (.cells cs)]) fun h' => K (.ptr h.length 0) h' | none => none)
    | none => none)
  | .box _ x => (match cellsOf (ev x) with | some cs => forceL cs fun cs => forceL (h ++ [some (.cells cs)]) fun h' => K (.ptr h.length 0) h' | none => none)
  | .load t x =>
    (match ev x with
    | .ptr i q => (match hget h i with | some (.cells cs) => (match loadV T t cs q with | some v => K v h | none => none) | _ => none)
    | .iptr cs => (match loadV T t cs 0 with | some v => K v h | none => none)
    | _ => none)
  | .store t x y =>
    (match ev x with
    | .ptr i q =>
      (match hget h i, T t, cellsOf (ev y) with
      | some (.cells cs), some ti, some vs =>
        cond (allOne vs && vs.length == ti.size && Nat.ble (q + vs.length) cs.length) (forceL (setL cs q vs) fun cs' => forceL (h.set i (some (.cells cs'))) fun h' => K .undef h') none
      | _, _, _ => none)
    | _ => none)
  | .indexAddr t x i =>
    (match T t with
    | some ti =>
      (match ti.k, ev x, ev i with
      | .slice e, .psl sz xs _, .int _ n => (match T e with | some ei => cond (sz == ei.size) (cond (decide (0 ≤ n)) (match xs[n.toNat]? with | some cs => K (.iptr cs) h | none => none) none) none | none => none)
      | .slice e, .lsl id sz o m _, .int _ n => (match T e with | some ei => cond (sz == ei.size) (cond (decide (0 ≤ n ∧ n < m)) (K (.ptr id (o + n.toNat * sz)) h) none) none | none => none)
      | .arr m e, .ptr id q, .int _ n => (match T e with | some ei => cond (decide (0 ≤ n ∧ n < m)) (K (.ptr id (q + n.toNat * ei.size)) h) none | none => none)
      | .arr m e, .iptr cs, .int _ n => (match T e with | some ei => cond (decide (0 ≤ n ∧ n < m)) (K (.iptr (cs.drop (n.toNat * ei.size))) h) none | none => none)
      | _, _, _ => none)
    | none => none)
  | .build t parts => (match buildV T t (parts.toList.map fun p => (p.1, ev p.2)) with | some v => K v h | none => none)
  | .buildSlice t n parts => buildSliceE T t n (parts.toList.map fun p => (p.1, ev p.2)) h K
  | .binOp op t x y _ =>
    (match op, ev x, ev y with
    | .quo, .int k a, .int k' b => cond (k == k') (cond (!decide (b = 0)) (K (.int k (k.wrap (a.tdiv b))) h) none) none
    | .rem, .int k a, .int k' b => cond (k == k') (cond (!decide (b = 0)) (K (.int k (a.tmod b)) h) none) none
    | .shl, .int k a, .int _ b => cond (decide (0 ≤ b)) (K (.int k (k.wrap (a * 2 ^ (min b.toNat k.bits)))) h) none
    | .shr, .int k a, .int _ b => cond (decide (0 ≤ b)) (K (.int k (a.fdiv (2 ^ (min b.toNat k.bits)))) h) none
    | op, x', y' => (match binV T op t x' y' with | some v => K v h | none => none))
  | .slice t x lo hi mx => (match mx with | none => sliceE T t (ev x) (lo.map ev) (hi.map ev) h K | some _ => none)
  | .index t x i => indexE T t (ev x) (ev i) h K
  | .call c =>
    (match c.callee with
    | .builtin .append =>
      (match c.argTypes.toList, c.args.toList.map ev with
      | [t, xt], [s, x] => appendE T t xt s x h K
      | _, _ => none)
    | .value f => (match ev f with | .fn (.func g) first caps => fl2 (first ++ (c.args.toList.map ev) ++ caps) fun args => call g args h K | _ => none)
    | .builtin b => (match builtinV T b c.argTypes.toList (c.args.toList.map ev) with | some v => K v h | none => none)
    | .invoke .. => none)
  | op => (match pureOp T ev op with | some v => K v h | none => none)

theorem gd_some {b : Bool} {x : R} {r : X × List V × Heap} (h : cond b x none = some r) : b = true ∧ x = some r := by
  cases b
  · cases h
  · exact ⟨rfl, h⟩
theorem gdP {b : Bool} {X : Prop} (h : b = true) (x : X) : cond b X False := by subst h; exact x

section
variable {P : Program} {T : Nat → Option TI} {call : CallE} (hcall : ∀ g args h K r, call g args h K = some r → Sem P g args h fun v h' => K v h' = some r)
variable {h : Heap} {K : V → Heap → R} {r : X × List V × Heap}

theorem buildSliceE_ok {t n : Nat} {parts : List (Nat × V)} (hk : buildSliceE T t n parts h K = some r) : buildSliceP T t n parts h fun v h' => K v h' = some r := by
  unfold buildSliceE at hk
  unfold buildSliceP
  split at hk
  · split at hk
    · split at hk
      · split at hk
        · rename_i h1 _ _ h2 _ _ h3 _ _ h4
          simp only [h1, h2, h3, h4]
          simp only [fl2_eq, fll_eq, forceL_eq] at hk ⊢
          generalize Nat.ble _ _ = b1 at hk ⊢
          cases b1
          · cases hk
          · simp only [cond_true] at hk ⊢
            generalize List.all _ _ = b2 at hk ⊢
            cases b2
            · exact hk
            · exact hk
        · cases hk
      · cases hk
    · cases hk
  · cases hk

theorem sliceE_ok {t : Nat} {x : V} {lo hi : Option V} (hk : sliceE T t x lo hi h K = some r) : sliceP T t x lo hi h fun v h' => K v h' = some r := by
  unfold sliceE at hk
  unfold sliceP
  split at hk
  · split at hk
    · split at hk
      · obtain ⟨h1, h2⟩ := gd_some hk
        have h1 := of_decide_eq_true h1
        simp only [*]
        exact ⟨by trivial, by trivial⟩
      · cases hk
    · split at hk
      · obtain ⟨h1, h2⟩ := gd_some hk
        obtain ⟨h3, h4⟩ := gd_some h2
        rw [fll_eq] at h4
        have h3 := of_decide_eq_true h3
        simp only [*]
        exact ⟨by trivial, by trivial⟩
      · cases hk
    · split at hk
      · simp only [*]
      · cases hk
    · cases hk
  · cases hk

theorem indexE_ok {t : Nat} {x i : V} (hk : indexE T t x i h K = some r) : indexP T t x i h fun v h' => K v h' = some r := by
  unfold indexE at hk
  unfold indexP
  split at hk
  · split at hk
    · split at hk
      · obtain ⟨h1, h2⟩ := gd_some hk
        have h1 := of_decide_eq_true h1
        split at h2
        · simp only [*]
          exact ⟨by trivial, by trivial⟩
        · cases h2
      · cases hk
    · obtain ⟨h1, h2⟩ := gd_some hk
      have h1 := of_decide_eq_true h1
      split at h2
      · rename_i b hb
        simp only [*]
        exact ⟨b, ⟨trivial, rfl⟩, h2⟩
      · cases h2
    · cases hk
  · cases hk

theorem appendE_ok {t xt : Nat} {s x : V} (hk : appendE T t xt s x h K = some r) : appendP T t xt s x h fun v h' => K v h' = some r := by
  unfold appendE at hk
  unfold appendP
  split at hk
  · split at hk
    · split at hk
      · split at hk
        · split at hk
          · simp only [*]
          · simp only [*]
          · cases hk
        · split at hk
          · obtain ⟨h1, h2⟩ := gd_some hk
            rw [forceL_eq] at h2
            have h1 := of_decide_eq_true h1
            simp only [*]
            simp
          · obtain ⟨h1, h2⟩ := gd_some hk
            rw [fll_eq, forceL_eq] at h2
            have h1 := of_decide_eq_true h1
            simp only [*]
            simp
          · split at hk
            · obtain ⟨h1, h2⟩ := gd_some hk
              rw [fll_eq, forceL_eq] at h2
              have h1 := of_decide_eq_true h1
              simp only [*]
              simp
            · cases hk
          · cases hk
        · cases hk
      · cases hk
    · cases hk
  · cases hk

include hcall in
theorem opE_ok {ev : Operand → V} (op : Op) (hk : opE call T ev h K op = some r) : opP P T ev h (fun v h' => K v h' = some r) op := by
  cases op <;> simp only [opE] at hk <;> simp only [opP]
  case alloc =>
    split at hk
    · split at hk
      · simp only [forceL_eq] at hk
        simp only [*]
      · cases hk
    · cases hk
  case box =>
    split at hk
    · simp only [forceL_eq] at hk
      simp only [*]
    · cases hk
  case load =>
    split at hk
    · split at hk
      · split at hk
        · simp only [*]
        · cases hk
      · cases hk
    · split at hk
      · simp only [*]
      · cases hk
    · cases hk
  case store =>
    split at hk
    · split at hk
      · obtain ⟨h1, h2⟩ := gd_some hk
        simp only [forceL_eq] at h2
        rename_i h3 _ _ _ _ _ _ h4 h5 h6
        simp only [h3, h4, h5, h6]
        exact gdP h1 h2
      · cases hk
    · cases hk
  case build =>
    split at hk
    · simp only [*]
    · cases hk
  case buildSlice => exact buildSliceE_ok hk
  case slice =>
    split at hk
    · exact sliceE_ok hk
    · cases hk
  case index => exact indexE_ok hk
  case indexAddr =>
    split at hk
    · split at hk
      · split at hk
        · obtain ⟨h1, h2⟩ := gd_some hk
          obtain ⟨h3, h4⟩ := gd_some h2
          have h3 := of_decide_eq_true h3
          split at h4
          · rename_i cs hcs
            simp only [*]
            exact ⟨cs, ⟨trivial, rfl⟩, h4⟩
          · cases h4
        · cases hk
      · split at hk
        · obtain ⟨h1, h2⟩ := gd_some hk
          obtain ⟨h3, h4⟩ := gd_some h2
          have h3 := of_decide_eq_true h3
          simp only [*]
          exact ⟨by trivial, by trivial⟩
        · cases hk
      · split at hk
        · obtain ⟨h1, h2⟩ := gd_some hk
          have h1 := of_decide_eq_true h1
          simp only [*]
          exact ⟨by trivial, by trivial⟩
        · cases hk
      · split at hk
        · obtain ⟨h1, h2⟩ := gd_some hk
          have h1 := of_decide_eq_true h1
          simp only [*]
          exact ⟨by trivial, by trivial⟩
        · cases hk
      · cases hk
    · cases hk
  case binOp =>
    split at hk
    · obtain ⟨h1, h2⟩ := gd_some hk
      obtain ⟨h3, h4⟩ := gd_some h2
      simp only [Bool.not_eq_true', decide_eq_false_iff_not] at h3
      simp only [*]
      exact ⟨h3, trivial⟩
    · obtain ⟨h1, h2⟩ := gd_some hk
      obtain ⟨h3, h4⟩ := gd_some h2
      simp only [Bool.not_eq_true', decide_eq_false_iff_not] at h3
      simp only [*]
      exact ⟨h3, trivial⟩
    · obtain ⟨h1, h2⟩ := gd_some hk
      have h1 := of_decide_eq_true h1
      simp only [*]
      exact ⟨by trivial, by trivial⟩
    · obtain ⟨h1, h2⟩ := gd_some hk
      have h1 := of_decide_eq_true h1
      simp only [*]
      exact ⟨by trivial, by trivial⟩
    · rename_i n1 n2 n3 n4
      split at hk
      · split
        · exact (n1 _ _ _ _ rfl ‹_› ‹_›).elim
        · exact (n2 _ _ _ _ rfl ‹_› ‹_›).elim
        · exact (n3 _ _ _ _ rfl ‹_› ‹_›).elim
        · exact (n4 _ _ _ _ rfl ‹_› ‹_›).elim
        · simp only [*]
      · cases hk
  case call =>
    split at hk
    · split at hk
      · rename_i h1 _ _ _ _ _ _ h2 h3
        simp only [h1, h2, h3]
        exact appendE_ok hk
      · cases hk
    · split at hk
      · rename_i h1 _ _ _ _ h2
        simp only [h1, h2]
        rw [fl2_eq] at hk ⊢
        exact hcall _ _ _ _ _ hk
      · cases hk
    · split at hk
      · rename_i h0 h1 _ _ h2
        simp only [h1, h2]
        exact hk
      · cases hk
    · cases hk
  all_goals
    split at hk
    · simp only [*]
    · cases hk
end
end Go.Cv
