/- A calculus for calls of the program: canonical values and heaps, and what each operation, loop and call does to them; no condition on the program. -/
import Derived.Test.YtchadfgdcncpkaaGreatCx17g
namespace Go.Cx
open Go.RowKit

/-! ### What a call does to some blocks -/
def hpOf (l : List Blk) : Heap := l.map some
theorem hget_hpOf (l : List Blk) (i : Nat) : hget (hpOf l) i = l[i]? := by
  unfold hget hpOf
  rw [List.getElem?_map]
  cases l[i]? <;> rfl
theorem hpOf_len (l : List Blk) : (hpOf l).length = l.length := by simp [hpOf]

/-- Called with these, in a heap of these blocks alone, it hands back that, and leaves those: what was there first, then what is new. -/
structure Eff (P : Program) (g : FuncId) (args : List V) (h0 h1 : List Blk) (v : V) : Prop where
  run : Sem P g args (hpOf h0) fun v' h' => v' = v ∧ h' = hpOf h1
  len : h0.length ≤ h1.length
  args : args.all (V.under h0.length) = true
  res : v.under h1.length = true
  ok0 : h0.all (Blk.okB h0.length) = true
  ok1 : h1.all (Blk.okB h1.length) = true

theorem mem_all {α : Type} {p : α → Bool} {l : List α} (h : l.all p = true) {x : α} (hx : x ∈ l) : p x = true := List.all_eq_true.1 h x hx

section
variable {P : Program} {g : FuncId} {args0 : List V} {h0 h1 : List Blk} {v0 : V}

theorem iota_ok {ι : List Nat} {h : Heap} (hι : ι.map (hget h) = (hpOf h0).map (Blk.mv (iot ι h.length))) : ι.length = h0.length ∧ ∀ i k, hget (hpOf h0) i = some k → hget h (iot ι h.length i) = Blk.mv (iot ι h.length) (some k) := by
  have hl : ι.length = h0.length := by
    have := congrArg List.length hι
    simpa [hpOf] using this
  refine ⟨hl, fun i k hk => ?_⟩
  have hi := hget_lt hk
  rw [hpOf_len] at hi
  have := congrArg (fun l => l[i]?) hι
  simp only [List.getElem?_map] at this
  rw [iot_lt (H := h.length) (show i < ι.length by omega)] at this
  rw [hget_hpOf] at hk
  have h2 : (hpOf h0)[i]? = some (some k) := by unfold hpOf; rw [List.getElem?_map, hk]; rfl
  rw [h2] at this
  simpa using this

theorem Eff.call (e : Eff P g args0 h0 h1 v0) (ι : List Nat) {args : List V} {h : Heap} {K : V → Heap → Prop} (nid : Nat) (hnid : h.length = nid) (ha : args = args0.map (V.mv (iot ι nid))) (hnd : ι.Nodup) (hlt : (ι.all fun i => Nat.blt i nid) = true)
    (hι : ι.map (hget h) = (hpOf h0).map (Blk.mv (iot ι nid))) (hK : K (v0.mv (iot ι nid)) (setAll h ι ((hpOf h1).map (Blk.mv (iot ι nid))))) : Sem P g args h K := by
  subst hnid
  obtain ⟨hl, hb⟩ := iota_ok hι
  refine Sem.frame e.run ι (by rw [hl, hpOf_len]) hnd (fun i hi => ?_) ha (by rw [hpOf_len]; exact e.args) (fun i k hk => ⟨?_, hb i k hk⟩) ?_
  · have := List.all_eq_true.1 hlt i hi
    rwa [Nat.blt_eq] at this
  · rw [hget_hpOf] at hk
    rw [hpOf_len]
    exact mem_all e.ok0 (List.mem_of_getElem? hk)
  · rintro v h0' ⟨rfl, rfl⟩
    refine ⟨by rw [hpOf_len, hpOf_len]; exact e.len, by rw [hpOf_len]; exact e.res, fun k hk => ?_, hK⟩
    rw [hpOf_len]
    unfold hpOf at hk
    obtain ⟨b, hb, rfl⟩ := List.mem_map.1 hk
    exact mem_all e.ok1 hb

/-! In regions that draw -/
theorem mv1_refs {f : Nat → Nat} {m : Nat} {p : Nat → Bool} (hp : ∀ i, i < m → p (f i) = true) {v : V} (h : v.under1 m = true) : (v.mv1 f).refs1 p = true := by
  have lt : ∀ {i : Nat}, Nat.blt i m = true → p (f i) = true := fun hi => hp _ (by rwa [Nat.blt_eq] at hi)
  cases v with
  | ptr => exact lt h
  | gptr => exact lt h
  | lsl => exact lt h
  | gsl => exact lt h
  | map => exact lt h
  | yld => exact lt h
  | psl sz xs tok =>
    cases tok with
    | own i => exact lt h
    | any => rfl
    | exact => rfl
  | fn => cases h
  | agg => cases h
  | tup => cases h
  | undef => rfl
  | bool => rfl
  | int => rfl
  | str => rfl
  | nilp => rfl
  | iptr => rfl
  | nilfn => rfl
  | nils => rfl
  | nilm => rfl
theorem map_refs {g : V → V} {p q : V → Bool} (one : ∀ v, p v = true → q (g v) = true) {l : List V} (h : l.all p = true) : (l.map g).all q = true := by
  rw [List.all_eq_true] at h ⊢
  intro x hx
  obtain ⟨y, hy, rfl⟩ := List.mem_map.1 hx
  exact one y (h y hy)
theorem mv2_refs {f : Nat → Nat} {m : Nat} {p : Nat → Bool} (hp : ∀ i, i < m → p (f i) = true) {v : V} (h : v.under2 m = true) : (v.mv2 f).refs2 p = true := by
  unfold V.under2 at h
  split at h
  · simp only [Bool.and_eq_true] at h
    simp only [V.mv2, V.refs2, Bool.and_eq_true]
    exact ⟨map_refs (fun v => mv1_refs hp) h.1, map_refs (fun v => mv1_refs hp) h.2⟩
  · exact map_refs (fun v => mv1_refs hp) h
  · exact map_refs (fun v => mv1_refs hp) h
  · rename_i n1 n2 n3
    have e : v.mv2 f = v.mv1 f := by
      cases v <;> first | rfl | exact absurd rfl (n1 _ _ _) | exact absurd rfl (n2 _) | exact absurd rfl (n3 _)
    rw [e]
    have := mv1_refs hp h
    cases v <;> first | exact this | exact absurd rfl (n1 _ _ _) | exact absurd rfl (n2 _) | exact absurd rfl (n3 _) | skip
    rename_i sz xs tok; cases tok <;> exact this
theorem mv_refs {f : Nat → Nat} {m : Nat} {p : Nat → Bool} (hp : ∀ i, i < m → p (f i) = true) {v : V} (h : v.under m = true) : (v.mv f).refs p = true := by
  unfold V.under at h
  split at h
  · simp only [Bool.and_eq_true] at h
    simp only [V.mv, V.refs, Bool.and_eq_true]
    exact ⟨map_refs (fun v => mv2_refs hp) h.1, map_refs (fun v => mv2_refs hp) h.2⟩
  · exact map_refs (fun v => mv2_refs hp) h
  · exact map_refs (fun v => mv2_refs hp) h
  · rename_i n1 n2 n3
    have e : v.mv f = v.mv1 f := by
      cases v <;> first | rfl | exact absurd rfl (n1 _ _ _) | exact absurd rfl (n2 _) | exact absurd rfl (n3 _)
    rw [e]
    have := mv1_refs hp h
    cases v <;> first | exact this | exact absurd rfl (n1 _ _ _) | exact absurd rfl (n2 _) | exact absurd rfl (n3 _) | skip
    rename_i sz xs tok; cases tok <;> exact this
theorem free1_refs' {v : V} {p : Nat → Bool} (h : v.free1 = true) : v.refs p = true := by
  cases v with
  | psl sz xs tok => cases tok with
    | own => cases h
    | any => rfl
    | exact => rfl
  | fn g a b =>
    simp only [V.free1, Bool.and_eq_true, List.isEmpty_iff] at h
    obtain ⟨rfl, rfl⟩ := h; rfl
  | ptr => cases h
  | gptr => cases h
  | lsl => cases h
  | gsl => cases h
  | map => cases h
  | yld => cases h
  | agg => cases h
  | tup => cases h
  | undef => rfl
  | bool => rfl
  | int => rfl
  | str => rfl
  | nilp => rfl
  | iptr => rfl
  | nilfn => rfl
  | nils => rfl
  | nilm => rfl
theorem blk_refs {f : Nat → Nat} {m : Nat} {p : Nat → Bool} (hp : ∀ i, i < m → p (f i) = true) {k : Blk} (h : k.okB m = true) : (k.mvB f).refs p = true ∧ k.mvB f ≠ .dead := by
  cases k with
  | cells e cs => exact ⟨map_refs (fun v => mv_refs hp) h, fun e => by cases e⟩
  | grow ver e sz cs =>
    refine ⟨?_, fun e => by cases e⟩
    show cs.all (V.refs p) = true
    have h : cs.all V.free1 = true := h
    rw [List.all_eq_true] at h ⊢
    exact fun x hx => free1_refs' (h x hx)
  | token => cases h
  | siter => cases h
  | dead => cases h
  | miter => cases h
  | map => cases h
  | mapc => cases h
  | loop => cases h

def zipW (f : Nat → Nat) : Nat → List Blk → List (Nat × Blk)
  | _, [] => []
  | i, b :: bs => (f i, b.mvB f) :: zipW f (i + 1) bs
theorem zipW_mem {f : Nat → Nat} : ∀ (bs : List Blk) (i : Nat) (p : Nat × Blk), p ∈ zipW f i bs → ∃ j b, bs[j]? = some b ∧ p = (f (i + j), b.mvB f)
  | [], _, _, h => by cases h
  | b :: bs, i, p, h => by
    rcases List.mem_cons.1 h with rfl | h
    · exact ⟨0, b, rfl, rfl⟩
    · obtain ⟨j, c, h1, h2⟩ := zipW_mem bs (i + 1) p h
      exact ⟨j + 1, c, by simpa using h1, by rw [h2, show i + 1 + j = i + (j + 1) by omega]⟩
theorem zipW_get {f : Nat → Nat} : ∀ (bs : List Blk) (i j : Nat) (b : Blk), bs[j]? = some b → (f (i + j), b.mvB f) ∈ zipW f i bs
  | c :: bs, i, 0, b, h => by simp only [List.getElem?_cons_zero, Option.some.injEq] at h; subst h; exact List.mem_cons_self ..
  | c :: bs, i, j + 1, b, h => by
    have := zipW_get (f := f) bs (i + 1) j b (by simpa using h)
    rw [show i + 1 + j = i + (j + 1) by omega] at this
    exact List.mem_cons_of_mem _ this

theorem hget_ext {a b : Heap} (hl : a.length = b.length) (h : ∀ i, hget a i = hget b i) : a = b := by
  apply List.ext_getElem? ; intro i
  have := h i
  unfold hget at this
  rcases Nat.lt_or_ge i a.length with hi | hi
  · rw [List.getElem?_eq_getElem hi, List.getElem?_eq_getElem (by omega)] at this ⊢
    simpa using this
  · rw [List.getElem?_eq_none hi, List.getElem?_eq_none (by omega)]

/-- Of what is written, at a place that one pair alone names. -/
theorem applyW_hits : ∀ (wr : List (Nat × Blk)) (h : Heap) (i : Nat) (x : Blk), (∀ b, (i, b) ∈ wr → b = x) → (∃ b, (i, b) ∈ wr) → i < h.length → hget (applyW h wr) i = some x := applyW_val

theorem Eff.callX (e : Eff P g args0 h0 h1 v0) (ι : List Nat) {args : List V} {h : Heap} (nid : Nat) (hnid : h.length = nid) (ha : args = args0.map (V.mv (iot ι nid))) (hnd : ι.Nodup) (hlt : (ι.all fun i => Nat.blt i nid) = true)
    (hι : ι.map (hget h) = (hpOf h0).map (Blk.mv (iot ι nid))) : ∃ hs : Heap, hs.length = nid ∧ (∀ i k, hget hs i = some k → i ∈ ι ∧ hget h i = some k) ∧ (∀ i k, h0[i]? = some k → hget hs (iot ι nid i) = some (k.mvB (iot ι nid))) ∧
    FrOk args hs (v0.mv (iot ι nid)) (zipW (iot ι nid) 0 h1) (h1.length - h0.length) ∧ FrP (CallR P g) args hs fun v' h' => v' = v0.mv (iot ι nid) ∧ h' = applyW (hs ++ List.replicate (h1.length - h0.length) none) (zipW (iot ι nid) 0 h1) := by
  subst hnid
  obtain ⟨hl, hb⟩ := iota_ok hι
  have hltN : ∀ i ∈ ι, i < h.length := fun i hi => by
    have := List.all_eq_true.1 hlt i hi
    rwa [Nat.blt_eq] at this
  let f := iot ι h.length
  let hs : Heap := setAll (List.replicate h.length none) ι ((hpOf h0).map (Blk.mv f))
  have hlen0 : ι.length = ((hpOf h0).map (Blk.mv f)).length := by rw [List.length_map, hpOf_len, hl]
  obtain ⟨s0, s1, s2, s3⟩ := setAll_spec ι (List.replicate h.length (none : Option Blk)) ((hpOf h0).map (Blk.mv f)) hnd (fun i hi => by rw [List.length_replicate]; exact hltN i hi) (Nat.le_of_eq hlen0)
  have hsl : hs.length = h.length := by
    show (setAll _ _ _).length = _
    rw [s0, ← hlen0]; simp
  have hrn : ∀ i, hget (List.replicate h.length (none : Option Blk)) i = none := fun i => by
    unfold hget
    rw [List.getElem?_replicate]
    split <;> rfl
  have hsat : ∀ i, i < h0.length → hget hs (f i) = Blk.mv f (h0[i]?) := fun i hi => by
    have h2 : ((hpOf h0).map (Blk.mv f))[i]? = some (Blk.mv f (h0[i]?)) := by
      rw [List.getElem?_map]
      unfold hpOf
      rw [List.getElem?_map, List.getElem?_eq_getElem hi]; rfl
    have h3 := s1 i (f i) (iot_lt (by omega))
    rw [h2] at h3
    exact h3
  have hfi : ∀ i, i < h0.length → f i < h.length := fun i hi => hltN _ (List.mem_of_getElem? (iot_lt (by omega)))
  have hsn : ∀ j, (∀ i, i < h0.length → f i ≠ j) → hget hs j = none := fun j hj => by
    rcases Nat.lt_or_ge j h.length with h4 | h4
    · refine (s2 j (by rw [List.length_replicate]; exact h4) (fun hm => ?_)).trans (hrn j)
      obtain ⟨i, hi, he⟩ := List.getElem_of_mem hm
      have := iot_lt (H := h.length) hi
      rw [List.getElem?_eq_getElem hi, he] at this
      exact hj i (by omega) (Option.some.inj this).symm
    · unfold hget
      rw [List.getElem?_eq_none (by rw [hsl]; exact h4)]; rfl
  have hsome : ∀ j k, hget hs j = some k → ∃ i k0, i < h0.length ∧ j = f i ∧ h0[i]? = some k0 ∧ k = k0.mvB f := fun j k hk => by
    by_cases hj : ∃ i, i < h0.length ∧ f i = j
    · obtain ⟨i, hi, rfl⟩ := hj
      rw [hsat i hi, List.getElem?_eq_getElem hi] at hk
      exact ⟨i, _, hi, rfl, List.getElem?_eq_getElem hi, (Option.some.inj hk).symm⟩
    · rw [hsn j (fun i hi e => hj ⟨i, hi, e⟩)] at hk; cases hk
  have hlive : ∀ i, i < h0.length → liveB hs (f i) = true := fun i hi => by
    have := hsat i hi
    rw [List.getElem?_eq_getElem hi] at this
    exact liveB_some this
  -- the call, in the heap of these blocks alone
  have hrun := e.call ι (h := hs) (K := fun v' h' => v' = v0.mv f ∧ h' = plug ι hs (hpOf h1)) (args := args) hs.length rfl (by rw [hsl]; exact ha) hnd (by rw [hsl]; exact hlt) (by
    rw [hsl]
    apply List.ext_getElem?
    intro i
    rw [List.getElem?_map, List.getElem?_map]
    rcases Nat.lt_or_ge i ι.length with hi | hi
    · rw [iot_lt (H := h.length) hi]
      have h5 := hsat i (by omega)
      show some (hget hs (f i)) = _
      rw [h5]
      unfold hpOf
      rw [List.getElem?_map, List.getElem?_eq_getElem (show i < h0.length by omega)]; rfl
    · rw [List.getElem?_eq_none hi, List.getElem?_eq_none (by rw [hpOf_len]; omega)]; rfl) ⟨by rw [hsl], rfl⟩
  have hlen1 := e.len
  have hplen : ι.length ≤ ((hpOf h1).map (Blk.mv (iot ι hs.length))).length := by rw [List.length_map, hpOf_len]; omega
  obtain ⟨p0, p1, p2, p3⟩ := setAll_spec ι hs ((hpOf h1).map (Blk.mv (iot ι hs.length))) hnd (fun i hi => by rw [hsl]; exact hltN i hi) hplen
  have hall : ∀ j k, hget (applyW (hs ++ List.replicate (h1.length - h0.length) none) (zipW f 0 h1)) j = some k → ∃ i b, h1[i]? = some b ∧ j = f i ∧ k = b.mvB f := fun j k hk => by
    by_cases hj : ∃ i b, h1[i]? = some b ∧ f i = j
    · obtain ⟨i, b, h6, rfl⟩ := hj
      refine ⟨i, b, h6, rfl, ?_⟩
      have hlt2 : f i < (hs ++ List.replicate (h1.length - h0.length) (none : Option Blk)).length := by
        rw [List.length_append, hsl, List.length_replicate]
        have hi1 := (List.getElem?_eq_some_iff.1 h6).1
        rcases Nat.lt_or_ge i h0.length with h7 | h7
        · have := hfi i h7; omega
        · have : f i = h.length + (i - ι.length) := iot_ge (by omega)
          omega
      rw [applyW_hits _ _ _ (b.mvB f) (fun b' hb' => by
        obtain ⟨j', b'', g1, g2⟩ := zipW_mem h1 0 _ hb'
        simp only [Prod.mk.injEq, Nat.zero_add] at g2
        have := iot_inj hnd hltN g2.1
        subst this
        rw [h6] at g1
        simp only [Option.some.injEq] at g1
        rw [g2.2, ← g1]) ⟨b.mvB f, by have := zipW_get (f := f) h1 0 i b h6; rwa [Nat.zero_add] at this⟩ hlt2] at hk
      exact (Option.some.inj hk).symm
    · rw [applyW_hget _ _ _ (fun q hq e => by
        obtain ⟨j', b'', g1, g2⟩ := zipW_mem h1 0 _ hq
        rw [g2, Nat.zero_add] at e
        exact hj ⟨j', b'', g1, e⟩)] at hk
      exfalso
      unfold hget at hk
      rcases Nat.lt_or_ge j hs.length with h8 | h8
      · rw [List.getElem?_append_left h8] at hk
        obtain ⟨i, k0, g1, g2, g3, g4⟩ := hsome j k hk
        exact hj ⟨i, h1[i]'(by omega), List.getElem?_eq_getElem (by omega), g2.symm⟩
      · rw [List.getElem?_append_right h8, List.getElem?_replicate] at hk
        split at hk <;> cases hk
  have hhit : ∀ i b, h1[i]? = some b → hget (applyW (hs ++ List.replicate (h1.length - h0.length) none) (zipW f 0 h1)) (f i) = some (b.mvB f) := fun i b h6 => by
    have hlt2 : f i < (hs ++ List.replicate (h1.length - h0.length) (none : Option Blk)).length := by
      rw [List.length_append, hsl, List.length_replicate]
      have hi1 := (List.getElem?_eq_some_iff.1 h6).1
      rcases Nat.lt_or_ge i h0.length with h7 | h7
      · have := hfi i h7; omega
      · have : f i = h.length + (i - ι.length) := iot_ge (by omega)
        omega
    exact applyW_hits _ _ _ (b.mvB f) (fun b' hb' => by
      obtain ⟨j', b'', g1, g2⟩ := zipW_mem h1 0 _ hb'
      simp only [Prod.mk.injEq, Nat.zero_add] at g2
      have := iot_inj hnd hltN g2.1
      subst this
      rw [h6] at g1
      simp only [Option.some.injEq] at g1
      rw [g2.2, ← g1]) ⟨b.mvB f, by have := zipW_get (f := f) h1 0 i b h6; rwa [Nat.zero_add] at this⟩ hlt2
  have hplug : plug ι hs (hpOf h1) = applyW (hs ++ List.replicate (h1.length - h0.length) none) (zipW f 0 h1) := by
    have hfs : iot ι hs.length = f := by rw [hsl]
    refine hget_ext ?_ (fun j => ?_)
    · show (setAll _ _ _).length = _
      rw [p0, applyW_length, List.length_append, List.length_replicate, List.length_map, hpOf_len]; omega
    · have hp1 : ∀ i b, h1[i]? = some b → hget (plug ι hs (hpOf h1)) (f i) = some (b.mvB f) := fun i b h6 => by
        have h9 : ((hpOf h1).map (Blk.mv (iot ι hs.length)))[i]? = some (some (b.mvB f)) := by
          rw [List.getElem?_map]
          unfold hpOf
          rw [List.getElem?_map, h6, hfs]; rfl
        rcases Nat.lt_or_ge i ι.length with h7 | h7
        · have := p1 i (f i) (iot_lt h7)
          rw [h9] at this
          exact this
        · have e1 : f i = h.length + (i - ι.length) := iot_ge h7
          have := p3 (f i) (by rw [e1, hsl]; omega)
          rw [e1, show h.length + (i - ι.length) - hs.length + ι.length = i by rw [hsl]; omega, h9] at this
          rw [e1]
          exact this
      by_cases hj : ∃ i b, h1[i]? = some b ∧ f i = j
      · obtain ⟨i, b, h6, rfl⟩ := hj
        rw [hp1 i b h6, hhit i b h6]
      · have hL : hget (plug ι hs (hpOf h1)) j = none := by
          rcases Nat.lt_or_ge j hs.length with h8 | h8
          · have hni : j ∉ ι := fun hm => by
              obtain ⟨i, hi, he⟩ := List.getElem_of_mem hm
              have := iot_lt (H := h.length) hi
              rw [List.getElem?_eq_getElem hi, he] at this
              exact hj ⟨i, h1[i]'(by omega), List.getElem?_eq_getElem (by omega), (Option.some.inj this).symm⟩
            refine (p2 j h8 hni).trans (hsn j (fun i hi e => ?_))
            exact hj ⟨i, h1[i]'(by omega), List.getElem?_eq_getElem (by omega), e⟩
          · refine (p3 j h8).trans ?_
            have h10 : ¬ (j - hs.length + ι.length < h1.length) := fun hlt3 => by
              refine hj ⟨j - hs.length + ι.length, h1[j - hs.length + ι.length]'hlt3, List.getElem?_eq_getElem hlt3, ?_⟩
              show iot ι h.length _ = j
              rw [iot_ge (by omega)]; omega
            rw [List.getElem?_map, List.getElem?_eq_none (by rw [hpOf_len]; omega)]; rfl
        rw [hL]
        cases hR : hget (applyW (hs ++ List.replicate (h1.length - h0.length) none) (zipW f 0 h1)) j with
        | none => rfl
        | some k =>
          obtain ⟨i, b, g1, g2, _⟩ := hall j k hR
          exact absurd ⟨i, b, g1, g2.symm⟩ hj
  have hlive1 : ∀ i, i < h1.length → liveB (applyW (hs ++ List.replicate (h1.length - h0.length) none) (zipW f 0 h1)) (f i) = true := fun i hi => liveB_some (hhit i _ (List.getElem?_eq_getElem hi))
  refine ⟨hs, hsl, fun i k hk => ?_, fun i k hk => ?_, ⟨?_, fun i k hk => ?_, ?_, fun i k hk => ?_, fun p hp => ?_⟩, ?_⟩
  · obtain ⟨j, k0, g1, g2, g3, g4⟩ := hsome i k hk
    refine ⟨g2 ▸ List.mem_of_getElem? (iot_lt (by omega)), ?_⟩
    rw [g2, g4]
    exact hb j k0 (by rw [hget_hpOf]; exact g3)
  · rw [hsat i (List.getElem?_eq_some_iff.1 hk).1, hk]; rfl
  · subst ha
    exact map_refs (fun v hv => mv_refs hlive hv) e.args
  · obtain ⟨j, k0, g1, g2, g3, g4⟩ := hsome i k hk
    rw [g4]
    exact blk_refs hlive (mem_all e.ok0 (List.mem_of_getElem? g3))
  · exact mv_refs hlive1 e.res
  · obtain ⟨j, k0, g1, g2, g3⟩ := hall i k hk
    rw [g3]
    exact (blk_refs hlive1 (mem_all e.ok1 (List.mem_of_getElem? g1))).1
  · obtain ⟨j, b, g1, g2⟩ := zipW_mem h1 0 p hp
    have hj1 := (List.getElem?_eq_some_iff.1 g1).1
    rw [g2, Nat.zero_add]
    rcases Nat.lt_or_ge j h0.length with h7 | h7
    · exact .inr (hlive j h7)
    · left
      have e1 : f j = h.length + (j - ι.length) := iot_ge (by omega)
      show hs.length ≤ f j ∧ f j < _
      rw [e1, hsl]
      show _ ∧ _ < h.length + (h1.length - h0.length)
      omega
  · refine Sem.fr (hrun.mono fun v h' ⟨g1, g2⟩ => ⟨g1, ?_⟩)
    rw [g2]; exact hplug

theorem Eff.callT (e : Eff P g args0 h0 h1 v0) (ι : List Nat) {args : List V} {h : Heap} (nid : Nat) (hnid : h.length = nid) (ha : args = args0.map (V.mv (iot ι nid))) (hnd : ι.Nodup) (hlt : (ι.all fun i => Nat.blt i nid) = true)
    (hι : ι.map (hget h) = (hpOf h0).map (Blk.mv (iot ι nid))) : CallT (CallR P g) args h nid ⟨v0.mv (iot ι nid), zipW (iot ι nid) 0 h1, ι ++ (zipW (iot ι nid) 0 h1).map (·.1), h1.length - h0.length, none⟩ := by
  obtain ⟨hs, h2, h3, _, h5, h6⟩ := e.callX ι nid hnid ha hnd hlt hι
  exact ⟨rfl, hs, h2, fun i k hk => ⟨List.mem_append_left _ (h3 i k hk).1, (h3 i k hk).2⟩, fun p hp => List.mem_append_right _ (List.mem_map_of_mem hp), h5, h6⟩

/-- What is only looked at. -/
theorem Eff.callR (e : Eff P g args0 h0 h0 v0) (ι : List Nat) {args : List V} {h : Heap} (nid : Nat) (hnid : h.length = nid) (ha : args = args0.map (V.mv (iot ι nid))) (hnd : ι.Nodup) (hlt : (ι.all fun i => Nat.blt i nid) = true)
    (hι : ι.map (hget h) = (hpOf h0).map (Blk.mv (iot ι nid))) : CallT (CallR P g) args h nid ⟨v0.mv (iot ι nid), [], ι, 0, none⟩ := by
  obtain ⟨hs, h2, h3, h4, h5, h6⟩ := e.callX ι nid hnid ha hnd hlt hι
  have hltN : ∀ i ∈ ι, i < nid := fun i hi => by
    have := List.all_eq_true.1 hlt i hi
    rwa [Nat.blt_eq] at this
  rw [Nat.sub_self] at h5 h6
  have e0 : hs ++ List.replicate 0 (none : Option Blk) = hs := by simp
  have hw : applyW (hs ++ List.replicate 0 none) (zipW (iot ι nid) 0 h0) = hs := by
    rw [e0]
    refine hget_ext (applyW_length _ _) (fun j => ?_)
    by_cases hj : ∃ i b, h0[i]? = some b ∧ iot ι nid i = j
    · obtain ⟨i, b, g1, rfl⟩ := hj
      rw [h4 i b g1]
      exact applyW_hits _ _ _ _ (fun b' hb' => by
        obtain ⟨j', b'', q1, q2⟩ := zipW_mem h0 0 _ hb'
        simp only [Prod.mk.injEq, Nat.zero_add] at q2
        have := iot_inj hnd hltN q2.1
        subst this
        rw [g1] at q1
        simp only [Option.some.injEq] at q1
        rw [q2.2, ← q1]) ⟨_, by have := zipW_get (f := iot ι nid) h0 0 i b g1; rwa [Nat.zero_add] at this⟩ (hget_lt (h4 i b g1))
    · exact applyW_hget _ _ _ (fun q hq e => by
        obtain ⟨j', b'', q1, q2⟩ := zipW_mem h0 0 _ hq
        rw [q2, Nat.zero_add] at e
        exact hj ⟨j', b'', q1, e⟩)
  have h7 := h5.res
  have h8 := h5.blks'
  rw [hw] at h7 h8
  refine ⟨rfl, hs, h2, h3, fun p hp => (by cases hp), ⟨h5.args, h5.blks, ?_, fun i k hk => ?_, fun p hp => (by cases hp)⟩, ?_⟩
  · show V.refs (liveB (hs ++ List.replicate 0 none)) _ = true
    rw [e0]; exact h7
  · have hk : hget (hs ++ List.replicate 0 none) i = some k := hk
    show k.refs (liveB (hs ++ List.replicate 0 none)) = true
    rw [e0] at hk ⊢
    exact h8 i k hk
  · refine ⟨fun φ μ B w cargs hB r ha => CallTo.mono (h6.run φ μ B w cargs hB r ha) fun _ _ => Ret.mono fun v h' ⟨g1, g2⟩ => ⟨g1, ?_⟩⟩
    show h' = hs ++ List.replicate 0 none
    rw [g2, hw, e0]
end
end Go.Cx
namespace Go.Cx
open Go.RowKit
/-! ### Ways to show what a call does -/
theorem free1_under {v : V} {m : Nat} (h : v.free1 = true) : v.under m = true := by
  cases v with
  | psl sz xs tok => cases tok with
    | own => cases h
    | any => rfl
    | exact => rfl
  | fn g a b =>
    simp only [V.free1, Bool.and_eq_true, List.isEmpty_iff] at h
    obtain ⟨rfl, rfl⟩ := h; rfl
  | ptr => cases h
  | gptr => cases h
  | lsl => cases h
  | gsl => cases h
  | map => cases h
  | yld => cases h
  | agg => cases h
  | tup => cases h
  | undef => rfl
  | bool => rfl
  | int => rfl
  | str => rfl
  | nilp => rfl
  | iptr => rfl
  | nilfn => rfl
  | nils => rfl
  | nilm => rfl
theorem okB_under {k : Blk} {m : Nat} (h : k.okB m = true) : Blk.under m (some k) = true := by
  cases k with
  | cells e cs => exact h
  | grow ver e sz cs =>
    have h : cs.all V.free1 = true := h
    show cs.all (V.under m) = true
    rw [List.all_eq_true] at h ⊢
    exact fun x hx => free1_under (h x hx)
  | token => cases h
  | siter => cases h
  | dead => cases h
  | miter => cases h
  | map => cases h
  | mapc => cases h
  | loop => cases h

/-- By its body: behind it there is what is left, and perhaps more. -/
theorem Eff.of {P : Program} {g : FuncId} {args : List V} {h0 h1 : List Blk} {v : V} (ha : args.all (V.under h0.length) = true) (hr : v.under h1.length = true) (h0ok : h0.all (Blk.okB h0.length) = true) (h1ok : h1.all (Blk.okB h1.length) = true) (hl : h0.length ≤ h1.length)
    (k : Sem P g args (hpOf h0) fun v' h' => v' = v ∧ h1.length ≤ h'.length ∧ dropH (h'.take h1.length) (hpOf h1)) : Eff P g args h0 h1 v := by
  refine ⟨Sem.cut (k.mono ?_), hl, ha, hr, h0ok, h1ok⟩
  rintro v' h' ⟨rfl, hlen, hd⟩
  refine ⟨h1.length, hpOf h1, hpOf_len h1, by rw [hpOf_len]; exact hl, hlen, hr, hd, ?_, rfl, rfl⟩
  rw [List.all_eq_true]
  intro x hx
  unfold hpOf at hx
  obtain ⟨b, hb, rfl⟩ := List.mem_map.1 hx
  exact okB_under (mem_all h1ok hb)

/-- What a call hands out, less being said of it. -/
theorem Sem.resT {P : Program} {g : FuncId} {args : List V} {h : Heap} {K : V → Heap → Prop} (k : Sem P g args h fun v h' => ∃ v2, forgT1 v v2 ∧ K v2 h') : Sem P g args h K :=
  ⟨fun φ μ B w cargs hB r ha => (k.run φ μ B w cargs hB r ha).mono fun _ _ ⟨_, h', φ', μ', cv, e1, ⟨v2, hf, hK⟩, hv, rest⟩ => ⟨v2, h', φ', μ', cv, e1, hK, forgT1_ok hv hf, rest⟩⟩
theorem forgT_psl {sz : Nat} {xs : List (List V)} {t : Tok} : forgT1 (.psl sz xs t) (.psl sz xs .any) := .inr (.inr (.inl ⟨_, _, _, rfl, rfl⟩))
theorem forgT_nils {sz : Nat} : forgT1 .nils (.psl sz [] .any) := .inr (.inr (.inr ⟨rfl, _, rfl⟩))
/-- Arguments, less being said of them. -/
theorem Sem.argsT {P : Program} {g : FuncId} {args args' : List V} {h : Heap} {K : V → Heap → Prop} (hf : forgT args args') (k : Sem P g args' h K) : Sem P g args h K :=
  ⟨fun φ μ B w cargs hB r ha => k.run φ μ B w cargs hB r (
    have := forgT_ok (φ := φ) (μ := μ) args args' hf
    ⟨this.1.trans ha.1, fun j => this.2 j _ (ha.2 j)⟩)⟩
theorem Fn.resT {P : Program} {g : FuncId} {args : List V} {v v2 : V} (f : Fn P g args v) (hf : forgT1 v v2) (h2 : v2.free = true) : Fn P g args v2 :=
  ⟨f.free, h2, Sem.resT (f.run.mono fun _ _ e => ⟨v2, e ▸ hf, rfl⟩)⟩
theorem Fn.argsT {P : Program} {g : FuncId} {args args' : List V} {v : V} (f : Fn P g args' v) (hf : forgT args args') (h2 : allFree args = true) : Fn P g args v :=
  ⟨h2, f.vfree, Sem.argsT hf f.run⟩

theorem ret_psl {φ' : Phi} {μ : Mu} {b sz cap : Nat} {xs : List (List V)} (hl : ∀ x ∈ xs, x.length = sz) (hcap : xs.length ≤ cap) {c : Nat → Value} (hcc : ∀ t, t < xs.flatten.length → φ'.cell b t = some (c t) ∧ Rv φ' mu0 (xs.flatten.getD t .undef) (c t)) :
    Rv φ' μ (.psl sz xs .any) (.slice (some ⟨b, 0, none⟩) xs.length cap) := by
  have hfl := flat_size xs hl
  have hlen : ∀ i, i < xs.length → (xs.getD i []).length = sz := fun i hi => by
    rw [List.getD_eq_getElem?_getD, List.getElem?_eq_getElem hi]; exact hl _ (List.getElem_mem hi)
  have hfg : ∀ i j, i < xs.length → j < sz → φ'.cell b (i * sz + j) = some (c (i * sz + j)) ∧ Rv φ' mu0 ((xs.getD i []).getD j .undef) (c (i * sz + j)) := fun i j hi hj => by
    have hlt : i * sz + j < xs.flatten.length := by
      rw [hfl]
      calc i * sz + j < i * sz + sz := by omega
        _ = (i + 1) * sz := by rw [Nat.succ_mul]
        _ ≤ xs.length * sz := Nat.mul_le_mul_right _ hi
    have := hcc _ hlt
    rw [flat_get xs i j hl hi hj] at this
    exact this
  exact Rv.psl μ sz xs .any b 0 cap (fun i j => c (i * sz + j)) hcap hlen (fun i j hi hj => by rw [Nat.zero_add]; exact (hfg i j hi hj).1) (fun i j hi hj => (hfg i j hi hj).2) trivial

/-- What a variable holds, made at once or grown, is given away for good. -/
theorem Wp.freeze {P : Program} {T : Nat → Option TI} {c : Code} {env : List V} {h : Heap} {Q : X → List V → Heap → Prop} (j id sz : Nat) (xs : List (List V)) {v : V} (hj : env[j]? = some v) (hl : ∀ x ∈ xs, x.length = sz) (hc : ∀ x ∈ xs, x.all cellOk = true)
    (hv : (∃ e cap, v = .lsl id sz 0 xs.length cap ∧ hget h id = some (.cells e xs.flatten)) ∨ ∃ ver lo s ex e, v = .gsl id sz 0 xs.length lo ex ver ∧ hget h id = some (.grow ver e s xs.flatten))
    (hk : Wp P T c (env.set j (.psl sz xs .any)) (h.set id none) Q) : Wp P T c env h Q := by
  refine ⟨fun ρ φ μ B w a hro hB r he => ?_⟩
  have hca : xs.flatten.all cellOk = true := by
    rw [List.all_eq_true]
    intro y hy
    obtain ⟨x, hx, hyx⟩ := List.mem_flatten.1 hy
    exact List.all_eq_true.1 (hc x hx) y hyx
  have hje := he.rv j
  rw [List.getD_eq_getElem?_getD, hj, Option.getD_some] at hje
  have main : ∀ (b : Nat) (x : Option Nat) (k : Blk) (e : TypeId) (cap : Nat), hget h id = some k → μ id = some (b, x) → (k = .cells e xs.flatten ∨ ∃ ver sz, k = .grow ver e sz xs.flatten) → xs.length ≤ cap → a.tmps.getD j Go.undef = .slice (some ⟨b, 0, none⟩) xs.length cap →
      c.wpIn (fen ρ) 0 P (PostC φ μ B w a.defers Q) a w := fun b x k e cap hi hm hkk hcap hcv => by
    obtain ⟨φ', hle, r1, hcell, cv, hcc⟩ := r.freeze hi hm hkk hca
    have hx : Ext φ μ w φ' μ := ⟨hle, Mu.le_refl _, fun i b x hi => .inl ⟨_, hi⟩, fun b' o v hv => by
      rcases hcell b' o v hv with h1 | rfl
      · exact .inl h1
      · exact .inr (.inr ⟨id, x, hm⟩)⟩
    have he' : EnvR φ' μ (env.set j (.psl sz xs .any)) a.tmps := ⟨by rw [List.length_set]; exact he.size, fun i => by
      rw [List.getD_eq_getElem?_getD, List.getElem?_set]
      by_cases hij : j = i
      · subst hij
        rw [if_pos rfl, if_pos (List.getElem?_eq_some_iff.1 hj).1, hcv]
        exact ret_psl hl hcap hcc
      · rw [if_neg hij, ← List.getD_eq_getElem?_getD]
        exact (he.rv i).mono hle (Mu.le_refl _)⟩
    exact wpIn_mono (hk.run ρ φ' μ B w a hro hB r1 he') fun _ _ _ hp => hp.trans hx (Fr.refl _ _) (Mk.refl _ _ _ _)
  rcases hv with ⟨e, cap, rfl, hi⟩ | ⟨ver, lo, s, ex, e, rfl, hi⟩
  · generalize hcv : a.tmps.getD j Go.undef = cv at hje
    cases hje with
    | lsl _ _ _ _ _ _ b hm h' => exact main b none _ e cap hi hm (.inl rfl) h' hcv
  · obtain ⟨b0, x0, hm0, hb0⟩ := r.blk id _ hi
    generalize hcv : a.tmps.getD j Go.undef = cv at hje
    cases hje with
    | gsl _ _ _ _ _ _ _ _ b m cc ad g1 g2 g3 g4 g5 g6 =>
      have hx0 : x0 = some ver := hb0.1
      rw [hm0] at g1
      simp only [Option.some.injEq, Prod.mk.injEq] at g1
      obtain ⟨rfl, e1⟩ := g1
      rw [hx0] at e1
      simp only [Option.some.injEq] at e1
      obtain ⟨rfl, _⟩ := g6 e1
      exact main b0 x0 _ e cc hi hm0 (.inr ⟨_, _, rfl⟩) g3 hcv

theorem Ret.freeze {φ : Phi} {μ : Mu} {B : Nat} {w w' : World} {K : V → Heap → Prop} {e : Ending} (h : Ret φ μ B w (fun v h' => Frozen v h' K) e w') : Ret φ μ B w K e w' := by
  obtain ⟨v, h', φ', μ', cv, rfl, ⟨id, sz, xs, hl, hc, hvh, hK⟩, hv, r, hx, hf⟩ := h
  have hca : xs.flatten.all cellOk = true := by
    rw [List.all_eq_true]
    intro y hy
    obtain ⟨x, hx, hyx⟩ := List.mem_flatten.1 hy
    exact List.all_eq_true.1 (hc x hx) y hyx
  have main : ∀ (b : Nat) (x : Option Nat) (k : Blk) (e : TypeId) (cap : Nat), hget h' id = some k → μ' id = some (b, x) → (k = .cells e xs.flatten ∨ ∃ ver sz, k = .grow ver e sz xs.flatten) → xs.length ≤ cap → cv = .slice (some ⟨b, 0, none⟩) xs.length cap →
      Ret φ μ B w K (.returned cv) w' := fun b x k e cap hi hm hk hcap hcv => by
    obtain ⟨φ2, hle, r1, hcell, c, hcc⟩ := r.freeze hi hm hk hca
    refine ⟨.psl sz xs .any, _, φ2, μ', cv, rfl, hK, hcv ▸ ret_psl hl hcap hcc, r1, ⟨Phi.le_trans hx.phi hle, hx.mu, hx.fresh, fun b' o v hv => ?_⟩, hf⟩
    rcases hcell b' o v hv with h1 | rfl
    · exact hx.cells b' o v h1
    · rcases hx.fresh id b' x hm with ⟨y, hy⟩ | hy
      · exact .inr (.inr ⟨id, y, hy⟩)
      · exact .inr (.inl hy)
  rcases hvh with ⟨e, cap, rfl, hi⟩ | ⟨ver, lo, s, ex, e, rfl, hi⟩
  · cases hv with
    | lsl _ _ _ _ _ _ b hm h' => exact main b none _ e cap hi hm (.inl rfl) h' rfl
  · obtain ⟨b0, x0, hm0, hb0⟩ := r.blk id _ hi
    cases hv with
    | gsl _ _ _ _ _ _ _ _ b m cc a g1 g2 g3 g4 g5 g6 =>
      have hx0 : x0 = some ver := hb0.1
      rw [hm0] at g1
      simp only [Option.some.injEq, Prod.mk.injEq] at g1
      obtain ⟨rfl, e1⟩ := g1
      rw [hx0] at e1
      simp only [Option.some.injEq] at e1
      obtain ⟨rfl, _⟩ := g6 e1
      exact main b0 x0 _ e cc hi hm0 (.inr ⟨_, _, rfl⟩) g3 rfl
/-- What a call hands out: as it is, given away, or with less said of it. -/
def Gives (K : V → Heap → Prop) (v : V) (h' : Heap) : Prop := K v h' ∨ Frozen v h' K ∨ ∃ v2, forgT1 v v2 ∧ K v2 h'
theorem Sem.gives {P : Program} {g : FuncId} {args : List V} {h : Heap} {K : V → Heap → Prop} (k : Sem P g args h (Gives K)) : Sem P g args h K :=
  ⟨fun φ μ B w cargs hB r ha => (k.run φ μ B w cargs hB r ha).mono fun e w' ⟨v, h', φ', μ', cv, e1, hg, hv, rest⟩ => by
    rcases hg with h1 | h1 | ⟨v2, h1, h2⟩
    · exact ⟨v, h', φ', μ', cv, e1, h1, hv, rest⟩
    · exact Ret.freeze ⟨v, h', φ', μ', cv, e1, h1, hv, rest⟩
    · exact ⟨v2, h', φ', μ', cv, e1, h2, forgT1_ok hv h1, rest⟩⟩
/-- By its body: behind it the blocks stand in some order, and there may be more. -/
theorem Eff.ofP {P : Program} {g : FuncId} {args : List V} {h0 h1 : List Blk} {v : V} (ha : args.all (V.under h0.length) = true) (hr : v.under h1.length = true) (h0ok : h0.all (Blk.okB h0.length) = true) (h1ok : h1.all (Blk.okB h1.length) = true) (hl : h0.length ≤ h1.length)
    (k : Sem P g args (hpOf h0) fun v' h' => ∃ (σ : List Nat) (n : Nat), n = h'.length ∧ σ.Nodup ∧ (∀ i, i < h0.length → σ[i]? = some i) ∧ v' = v.mv (iot σ n) ∧ σ.map (hget h') = (hpOf h1).map (Blk.mv (iot σ n))) : Eff P g args h0 h1 v := by
  refine ⟨Sem.exit (k.mono ?_), hl, ha, hr, h0ok, h1ok⟩
  rintro v' h' ⟨σ, n, rfl, hnd, hid, hv, hσ⟩
  obtain ⟨q1, q2⟩ := iota_ok hσ
  refine ⟨σ, v, hpOf h1, by rw [hpOf_len]; exact q1, by rw [hpOf_len, hpOf_len]; exact hl, hnd, fun i hi => hid i (by rwa [hpOf_len] at hi), hv, by rw [hpOf_len]; exact hr, fun i kk hk => ⟨?_, q2 i kk hk⟩, rfl, rfl⟩
  rw [hget_hpOf] at hk
  rw [hpOf_len]
  exact mem_all h1ok (List.mem_of_getElem? hk)
/-- An append to a block that grows, for which there may not be room. -/
theorem apGrow {P : Program} {T : Nat → Option TI} {md : Bool} {ev : Operand → V} {hg : Nat → Option Blk} {nid : Nat} {c : Call} {t xt : Nat} {x : V} {ti xi ei : TI} {e id sz n lo ver s0 : Nat} {cs : List V} {el : El}
    (hc : c.callee = .builtin .append) (ht : c.argTypes.toList = [t, xt]) (ha : c.args.toList.map ev = [.gsl id sz 0 n lo false ver, x]) (hT : T t = some ti) (hk : ti.k = .slice e) (hei : T e = some ei) (hxi : T xt = some xi) (hxk : slcK xi.k = true)
    (hrd : rdE hg ei.size x = some el) (hn : el.n ≠ 0) (hg' : hg id = some (.grow ver e s0 cs)) (hlo : lo < n + el.n) (hsz : sz = ei.size) (hcs : n * ei.size = cs.length) (hok : el.ok = true) (hone : allOne el.vs = true) (hfit : fitsB ei (n + el.n) = true) (hxs : ∀ k m, x ≠ .int k m) :
    opF P T md ev hg nid (.call c) = some ⟨true, .gsl id sz 0 (n + el.n) (n + el.n) false (ver + 1), [(id, .grow (ver + 1) e s0 (cs ++ el.vs))], id :: el.acc, 0⟩ := by
  obtain ⟨callee, args, ats⟩ := c
  simp only at hc ht ha
  subst hc
  simp only [opF, ht, ha]
  have h1 : appendF T md t xt (.gsl id sz 0 n lo false ver) x hg nid = appendG T md t xt (.gsl id sz 0 n lo false ver) x hg nid := rfl
  rw [h1]
  have b0 : Nat.beq el.n 0 = false := by
    cases hb : Nat.beq el.n 0 with
    | false => rfl
    | true => exact absurd (Nat.eq_of_beq_eq_true hb) hn
  have b1 : Nat.ble (n + el.n) lo = false := by
    cases hb : Nat.ble (n + el.n) lo with
    | false => rfl
    | true => have := Nat.le_of_ble_eq_true hb; omega
  have b2 : Nat.beq (n * ei.size) cs.length = true := by rw [hcs, Nat.beq_refl]
  subst hsz
  simp only [appendG, hT, hxi, hk, hei, hrd, hxk, b0, hg', b1, b2, cond_true, cond_false, Nat.beq_refl, Bool.true_and, hok, hone, hfit]
/-- An append to a block that grows, for which there is room. -/
theorem apFit {P : Program} {T : Nat → Option TI} {md : Bool} {ev : Operand → V} {hg : Nat → Option Blk} {nid : Nat} {c : Call} {t xt : Nat} {x : V} {ti xi ei : TI} {e id sz o n lo ver e0 s0 : Nat} {ex : Bool} {cs : List V} {el : El}
    (hc : c.callee = .builtin .append) (ht : c.argTypes.toList = [t, xt]) (ha : c.args.toList.map ev = [.gsl id sz o n lo ex ver, x]) (hT : T t = some ti) (hk : ti.k = .slice e) (hei : T e = some ei) (hxi : T xt = some xi) (hxk : slcK xi.k = true)
    (hrd : rdE hg ei.size x = some el) (hn : el.n ≠ 0) (hg' : hg id = some (.grow ver e0 s0 cs)) (hlo : n + el.n ≤ lo) (hsz : sz = ei.size) (hcs : o + n * ei.size + el.n * ei.size ≤ cs.length) (hok : el.ok = true) (hone : allOne el.vs = true) :
    opF P T md ev hg nid (.call c) = some ⟨true, .gsl id sz o (n + el.n) lo ex ver, [(id, .grow ver e0 s0 (setL cs (o + n * ei.size) el.vs))], id :: el.acc, 0⟩ := by
  obtain ⟨callee, args, ats⟩ := c
  simp only at hc ht ha
  subst hc
  simp only [opF, ht, ha]
  have h1 : appendF T md t xt (.gsl id sz o n lo ex ver) x hg nid = appendG T md t xt (.gsl id sz o n lo ex ver) x hg nid := rfl
  rw [h1]
  have b0 : Nat.beq el.n 0 = false := by
    cases hb : Nat.beq el.n 0 with
    | false => rfl
    | true => exact absurd (Nat.eq_of_beq_eq_true hb) hn
  have b1 : Nat.ble (n + el.n) lo = true := Nat.ble_eq_true_of_le hlo
  have b2 : Nat.ble (o + n * ei.size + el.n * ei.size) cs.length = true := Nat.ble_eq_true_of_le hcs
  subst hsz
  simp only [appendG, hT, hxi, hk, hei, hrd, hxk, b0, hg', b1, b2, cond_true, cond_false, Nat.beq_refl, Bool.true_and, hok, hone]
/-- Nothing is appended. -/
theorem apNone {P : Program} {T : Nat → Option TI} {md : Bool} {ev : Operand → V} {hg : Nat → Option Blk} {nid : Nat} {c : Call} {t xt : Nat} {x s : V} {ti xi ei : TI} {e : Nat} {el : El}
    (hc : c.callee = .builtin .append) (ht : c.argTypes.toList = [t, xt]) (ha : c.args.toList.map ev = [s, x]) (hT : T t = some ti) (hk : ti.k = .slice e) (hei : T e = some ei) (hxi : T xt = some xi) (hxk : slcK xi.k = true)
    (hrd : rdE hg ei.size x = some el) (hn : el.n = 0) (hs : isSl s = true) (hok : el.ok = true) (hxs : ∀ k m, x ≠ .int k m) :
    opF P T md ev hg nid (.call c) = some ⟨true, s, [], el.acc, 0⟩ := by
  obtain ⟨callee, args, ats⟩ := c
  simp only at hc ht ha
  subst hc
  simp only [opF, ht, ha]
  have h1 : appendF T md t xt s x hg nid = appendG T md t xt s x hg nid := by
    unfold appendF
    split
    · exact absurd rfl (hxs _ _)
    · rfl
  rw [h1]
  simp only [appendG, hT, hxi, hk, hei, hrd, hxk, hn, Nat.beq_refl, cond_true, hs, hok]
/-- What a range's record keeps may be forgotten. -/
theorem RangeP.fgt {P : Program} {T : Nat → Option TI} {f : Operand} {ps : Array Tmp} {asg bo : Code} {env : List V} (env' : List V) {h : Heap} {Q : X → List V → Heap → Prop} (hf : forgE env env') (hk : RangeP P T f ps asg bo env' h Q) : RangeP P T f ps asg bo env h Q :=
  ⟨fun ρ φ μ B w a hro hB r he => hk.run ρ φ μ B w a hro hB r (he.forg hf)⟩
end Go.Cx
