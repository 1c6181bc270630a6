/- A calculus for calls of the program: canonical values and heaps, and what each operation, loop and call does to them; no condition on the program. -/
import Derived.Test.YtifdekgmoekegaaDoorCx9z
namespace Go.Cx
open Go.RowKit

/-! ### What blocks a value speaks of -/
def V.refs1 (p : Nat → Bool) : V → Bool
  | .ptr i _ => p i
  | .gptr i _ _ => p i
  | .lsl i _ _ _ _ => p i
  | .gsl i _ _ _ _ _ _ => p i
  | .map i => p i
  | .yld i => p i
  | .psl _ _ (.own i) => p i
  | .fn _ a b => a.isEmpty && b.isEmpty
  | .agg _ => false
  | .tup _ => false
  | _ => true
def V.refs2 (p : Nat → Bool) : V → Bool
  | .fn _ a b => a.all (V.refs1 p) && b.all (V.refs1 p)
  | .agg cs => cs.all (V.refs1 p)
  | .tup cs => cs.all (V.refs1 p)
  | v => v.refs1 p
def V.refs (p : Nat → Bool) : V → Bool
  | .fn _ a b => a.all (V.refs2 p) && b.all (V.refs2 p)
  | .agg cs => cs.all (V.refs2 p)
  | .tup cs => cs.all (V.refs2 p)
  | v => v.refs1 p
def Blk.refs (p : Nat → Bool) : Blk → Bool
  | .cells _ cs => cs.all (V.refs p)
  | .token _ _ => true
  | .grow _ _ _ cs => cs.all (V.refs p)
  | .dead => true
  | .siter _ _ => true
  | .miter mid _ _ _ => p mid
  | .map es _ => es.all fun x => x.1.refs p && x.2.1.refs p
  | .mapc es _ => es.all fun x => x.1.refs p && x.2.refs p
  | .loop env _ _ _ _ _ => env.all (V.refs p)

section
variable {φ : Phi} {μ μ' : Mu} {p : Nat → Bool} (hp : ∀ i, p i = true → μ' i = μ i)
include hp

theorem refs1_rv {v : V} {c : Value} (h : Rv φ μ v c) (hr : v.refs1 p = true) : Rv φ μ' v c := by
  cases h with
  | undef => exact .undef _ _
  | bool => exact .bool _ _
  | int => exact .int _ _ _
  | str => exact .str _ _
  | nilp => exact .nilp _
  | ptr _ id off bb hm => exact .ptr _ _ _ _ ((hp id hr).trans hm)
  | gptr _ id off ver b m a h1 h2 h3 => exact .gptr _ _ _ _ b m a ((hp id hr).trans h1) h2 h3
  | iptr _ cs bb off c h1 h2 => exact .iptr _ _ _ _ c h1 h2
  | fn _ f a b cf cc l1 l2 h1 h2 =>
    simp only [V.refs1, Bool.and_eq_true, List.isEmpty_iff] at hr
    obtain ⟨rfl, rfl⟩ := hr
    exact .fn _ _ _ _ _ _ l1 l2 (fun j hj => by cases hj) (fun j hj => by cases hj)
  | nilfn => exact .nilfn _
  | nils => exact .nils _
  | psl0 => exact .psl0 _ _ _ _
  | psl _ sz xs tok bb off cap c h0 h1 h2 h3 h4 =>
    cases tok with
    | any => exact .psl _ _ _ _ _ _ _ c h0 h1 h2 h3 trivial
    | exact => exact .psl _ _ _ _ _ _ _ c h0 h1 h2 h3 h4
    | own id =>
      obtain ⟨b', m', g1, g2⟩ := h4
      exact .psl _ _ _ _ _ _ _ c h0 h1 h2 h3 ⟨b', m', (hp id hr).trans g1, g2⟩
  | lsl _ id sz off n cap bb hm h' => exact .lsl _ _ _ _ _ _ _ ((hp id hr).trans hm) h'
  | gsl _ id sz off n lo ex ver b m cc a h1 h2 h3 h4 h5 h6 => exact .gsl _ _ _ _ _ _ _ _ b m cc a ((hp id hr).trans h1) h2 h3 h4 h5 h6
  | map _ id bb hm => exact .map _ _ _ ((hp id hr).trans hm)
  | nilm => exact .nilm _
  | yld _ id bb hm => exact .yld _ _ _ ((hp id hr).trans hm)
  | agg => cases hr
  | tup => cases hr

theorem refs2_rv {v : V} {c : Value} (h : Rv φ μ v c) (hr : v.refs2 p = true) : Rv φ μ' v c := by
  unfold V.refs2 at hr
  split at hr
  · simp only [Bool.and_eq_true] at hr
    cases h with
    | fn _ f a b cf cc l1 l2 h1 h2 => exact .fn _ _ _ _ _ _ l1 l2 (fun j hj => refs1_rv hp (h1 j hj) (all_getD hr.1 hj)) (fun j hj => refs1_rv hp (h2 j hj) (all_getD hr.2 hj))
  · obtain ⟨cs, rfl, hA⟩ := h.agg_inv
    exact .agg _ _ _ hA.1 (fun j hj => refs1_rv hp (hA.2 j hj) (all_getD hr hj))
  · obtain ⟨cs, rfl, hA⟩ := h.tup_inv
    exact .tup _ _ _ hA.1 (fun j hj => refs1_rv hp (hA.2 j hj) (all_getD hr hj))
  · exact refs1_rv hp h hr

theorem refs_rv {v : V} {c : Value} (h : Rv φ μ v c) (hr : v.refs p = true) : Rv φ μ' v c := by
  unfold V.refs at hr
  split at hr
  · simp only [Bool.and_eq_true] at hr
    cases h with
    | fn _ f a b cf cc l1 l2 h1 h2 => exact .fn _ _ _ _ _ _ l1 l2 (fun j hj => refs2_rv hp (h1 j hj) (all_getD hr.1 hj)) (fun j hj => refs2_rv hp (h2 j hj) (all_getD hr.2 hj))
  · obtain ⟨cs, rfl, hA⟩ := h.agg_inv
    exact .agg _ _ _ hA.1 (fun j hj => refs2_rv hp (hA.2 j hj) (all_getD hr hj))
  · obtain ⟨cs, rfl, hA⟩ := h.tup_inv
    exact .tup _ _ _ hA.1 (fun j hj => refs2_rv hp (hA.2 j hj) (all_getD hr hj))
  · exact refs1_rv hp h hr

theorem refs_blk {b : Nat} {x : Option Nat} {w : World} {k : Blk} (h : BlkR φ μ b x w k) (hr : k.refs p = true) : BlkR φ μ' b x w k := by
  cases k with
  | cells e cs =>
    obtain ⟨g0, c, g1, g2, g3, g4⟩ := h
    exact ⟨g0, c, g1, g2, fun j hj => refs_rv hp (g3 j hj) (all_getD hr hj), g4⟩
  | grow ver e sz cs =>
    obtain ⟨g0, c, g1, g2, g3, g4, g5⟩ := h
    exact ⟨g0, c, g1, g2, g3, fun j hj => refs_rv hp (g4 j hj) (all_getD hr hj), g5⟩
  | dead => trivial
  | siter s p => exact h
  | miter mid since seen last =>
    obtain ⟨g0, bm, g1, g2⟩ := h
    exact ⟨g0, bm, (hp mid hr).trans g1, g2⟩
  | token sz n => exact h
  | map es clock =>
    obtain ⟨g0, c, g1, g2, g3⟩ := h
    refine ⟨g0, c, g1, g2, fun j x y hx hy => ?_⟩
    obtain ⟨k1, k2, k3⟩ := g3 j x y hx hy
    simp only [Blk.refs, List.all_eq_true] at hr
    have := hr x (List.mem_of_getElem? hx)
    simp only [Bool.and_eq_true] at this
    exact ⟨refs_rv hp k1 this.1, refs_rv hp k2 this.2, k3⟩
  | mapc es clock =>
    obtain ⟨g0, c, fs, g1, g2, g3, g4⟩ := h
    refine ⟨g0, c, fs, g1, g2, fun j x y hx hy => ?_, g4⟩
    obtain ⟨k1, k2, k3⟩ := g3 j x y hx hy
    simp only [Blk.refs, List.all_eq_true] at hr
    have := hr (x.1, x.2.1) (g4.1.mem_iff.1 (List.mem_map_of_mem (f := fun x : V × V × Nat => (x.1, x.2.1)) (List.mem_of_getElem? hx)))
    simp only [Bool.and_eq_true] at this
    exact ⟨refs_rv hp k1 this.1, refs_rv hp k2 this.2, k3⟩
  | loop env ps assign body st pend =>
    obtain ⟨g0, fn, t, d, g1, g2, g3⟩ := h
    exact ⟨g0, fn, t, d, g1, g2, fun j hj => refs_rv hp (g3 j hj) (all_getD hr hj)⟩
end

def liveB (h : Heap) (i : Nat) : Bool := (hget h i).isSome
theorem liveB_some {h : Heap} {i : Nat} {k : Blk} (hk : hget h i = some k) : liveB h i = true := by unfold liveB; rw [hk]; rfl
theorem liveB_ex {h : Heap} {i : Nat} (hl : liveB h i = true) : i < h.length ∧ ∃ k, hget h i = some k := by
  unfold liveB at hl
  cases hk : hget h i with
  | none => rw [hk] at hl; cases hl
  | some k =>
    refine ⟨?_, k, rfl⟩
    rcases Nat.lt_or_ge i h.length with h1 | h1
    · exact h1
    · unfold hget at hk; rw [List.getElem?_eq_none h1] at hk; cases hk

theorem applyW_length : ∀ (wr : List (Nat × Blk)) (h : Heap), (applyW h wr).length = h.length
  | [], h => rfl
  | p :: wr, h => by
    show (applyW (h.set p.1 (some p.2)) wr).length = _
    rw [applyW_length wr, List.length_set]
theorem applyW_hget : ∀ (wr : List (Nat × Blk)) (h : Heap) (i : Nat), (∀ p ∈ wr, p.1 ≠ i) → hget (applyW h wr) i = hget h i
  | [], h, i, _ => rfl
  | p :: wr, h, i, hp => by
    show hget (applyW (h.set p.1 (some p.2)) wr) i = _
    rw [applyW_hget wr _ i (fun q hq => hp q (by simp [hq])), hget_set, if_neg (fun e => hp p (by simp) e.1)]
theorem applyW_some : ∀ (wr : List (Nat × Blk)) (h : Heap) (i : Nat), hget h i ≠ none → hget (applyW h wr) i ≠ none
  | [], h, i, hh => hh
  | p :: wr, h, i, hh => by
    show hget (applyW (h.set p.1 (some p.2)) wr) i ≠ none
    refine applyW_some wr _ i ?_
    rw [hget_set]
    split
    · simp
    · exact hh
theorem applyW_mem : ∀ (wr : List (Nat × Blk)) (h : Heap) (i : Nat) (k : Blk), (i, k) ∈ wr → i < h.length → hget (applyW h wr) i ≠ none
  | p :: wr, h, i, k, hm, hl => by
    show hget (applyW (h.set p.1 (some p.2)) wr) i ≠ none
    rcases List.mem_cons.1 hm with e | hm'
    · refine applyW_some wr _ i ?_
      subst e
      rw [hget_set, if_pos ⟨rfl, hl⟩]; simp
    · exact applyW_mem wr _ i k hm' (by simpa using hl)
/-- What is written is the same in whatever heap. -/
theorem applyW_same : ∀ (wr : List (Nat × Blk)) (h h' : Heap) (i : Nat), i < h.length → i < h'.length → (∃ k, (i, k) ∈ wr) ∨ hget h i = hget h' i → hget (applyW h wr) i = hget (applyW h' wr) i
  | [], h, h', i, _, _, hc => by
    rcases hc with ⟨k, hk⟩ | hc
    · cases hk
    · exact hc
  | p :: wr, h, h', i, h1, h2, hc => by
    show hget (applyW (h.set p.1 (some p.2)) wr) i = hget (applyW (h'.set p.1 (some p.2)) wr) i
    refine applyW_same wr _ _ i (by simpa using h1) (by simpa using h2) ?_
    rw [hget_set, hget_set]
    by_cases hp : p.1 = i
    · subst hp
      exact .inr (by rw [if_pos ⟨rfl, h1⟩, if_pos ⟨rfl, h2⟩])
    · rw [if_neg (fun e => hp e.1), if_neg (fun e => hp e.1)]
      rcases hc with ⟨k, hk⟩ | hc
      · rcases List.mem_cons.1 hk with e | hk
        · exact absurd (by rw [← e]) hp
        · exact .inl ⟨k, hk⟩
      · exact .inr hc

/-- Something that is run with arguments: a call, or a round. -/
abbrev RunR := World → Array Value → (Ending → World → Prop) → Prop
structure FrP (R : RunR) (args : List V) (h : Heap) (K : V → Heap → Prop) : Prop where
  run : ∀ (φ : Phi) (μ : Mu) (B : Nat) (w : World) (cargs : Array Value), B ≤ w.heap.size → Rel φ μ B h w → RvL φ μ args cargs → R w cargs (Ret φ μ B w K)

/-- It looks at these blocks alone, and writes those. -/
structure FrOk (args : List V) (hs : Heap) (v : V) (wr : List (Nat × Blk)) (nw : Nat) : Prop where
  args : args.all (V.refs (liveB hs)) = true
  blks : ∀ i k, hget hs i = some k → k.refs (liveB hs) = true ∧ k ≠ .dead
  res : v.refs (liveB (applyW (hs ++ List.replicate nw none) wr)) = true
  blks' : ∀ i k, hget (applyW (hs ++ List.replicate nw none) wr) i = some k → k.refs (liveB (applyW (hs ++ List.replicate nw none) wr)) = true
  wr : ∀ p ∈ wr, (hs.length ≤ p.1 ∧ p.1 < hs.length + nw) ∨ liveB hs p.1 = true

theorem frame {R : RunR} (hmono : ∀ w cargs (Q Q' : Ending → World → Prop), (∀ e w', Q e w' → Q' e w') → R w cargs Q → R w cargs Q') {args : List V} {hs : Heap} {v : V} {wr : List (Nat × Blk)} {nw : Nat}
    (hrun : FrP R args hs fun v' h' => v' = v ∧ h' = applyW (hs ++ List.replicate nw none) wr) (ok : FrOk args hs v wr nw) {φ : Phi} {μ : Mu} {B : Nat} {h : Heap} {w : World} {cargs : Array Value} (hB : B ≤ w.heap.size) (r : Rel φ μ B h w) (ha : RvL φ μ args cargs)
    (hag : ∀ i k, hget hs i = some k → hget h i = some k) (hlen : hs.length + nw ≤ h.length) (hfree : ∀ q, q < nw → μ (hs.length + q) = none) :
    R w cargs fun e w' => ∃ cv, e = .returned cv ∧ ∃ φ' μ', Rv φ' μ' v cv ∧ Rel φ' μ' B (applyW h wr) w' ∧ Ext φ μ w φ' μ' ∧ Fr μ w w' ∧ ∀ i, μ' i ≠ μ i → (∃ k, (i, k) ∈ wr) ∧ ((hs.length ≤ i ∧ i < hs.length + nw) ∨ μ i ≠ none) := by
  obtain ⟨μr, hμr⟩ : ∃ μr : Mu, μr = fun i => if liveB hs i = true then μ i else none := ⟨_, rfl⟩
  have hr1 : ∀ i, liveB hs i = true → μr i = μ i := fun i hi => by rw [hμr]; simp only [hi, if_true]
  have hr2 : ∀ i x, μr i = some x → liveB hs i = true ∧ μ i = some x := fun i x hi => by
    rw [hμr] at hi
    simp only at hi
    split at hi
    · rename_i hl; exact ⟨hl, hi⟩
    · cases hi
  have rr : Rel φ μr B hs w := by
    refine ⟨r.glob, r.cell, r.size, fun i j b x y hi hj => r.inj i j b x y (hr2 i _ hi).2 (hr2 j _ hj).2, fun i b x hi => ?_, fun i k hk => ?_⟩
    · have := r.dom i b x (hr2 i _ hi).2
      exact ⟨(liveB_ex (hr2 i _ hi).1).1, this.2⟩
    · obtain ⟨b, x, h1, h2⟩ := r.blk i k (hag i k hk)
      exact ⟨b, x, (hr1 i (liveB_some hk)).trans h1, refs_blk hr1 h2 (ok.blks i k hk).1⟩
  have har : RvL φ μr args cargs := ⟨ha.1, fun j => by
    by_cases hj : j < args.length
    · exact refs_rv hr1 (ha.2 j) (all_getD ok.args hj)
    · have : args.getD j .undef = .undef := by simp [List.getElem?_eq_none (Nat.le_of_not_lt hj)]
      rw [this]; exact .undef _ _⟩
  refine hmono _ _ _ _ (fun e w' hq => ?_) (hrun.run φ μr B w cargs hB rr har)
  obtain ⟨v', h', φ', μ0, cv, he, ⟨hv, hh'⟩, hrv, hr, hx, hf⟩ := hq
  subst hv; subst hh'
  obtain ⟨hs', hhs'⟩ : ∃ hs', hs' = applyW (hs ++ List.replicate nw none) wr := ⟨_, rfl⟩
  have okr := ok.res
  have okb := ok.blks'
  rw [← hhs'] at hr okr okb
  have hlen' : hs'.length = hs.length + nw := by rw [hhs', applyW_length]; simp
  have hpad : ∀ i, hget (hs ++ List.replicate nw none) i = hget hs i := fun i => hget_pad hs nw i
  obtain ⟨μ', hμ'⟩ : ∃ μ' : Mu, μ' = fun i => if liveB hs' i = true then μ0 i else μ i := ⟨_, rfl⟩
  have f1 : ∀ i, liveB hs' i = true → μ' i = μ0 i := fun i hi => by rw [hμ']; simp only [hi, if_true]
  have f2 : ∀ i, liveB hs' i = false → μ' i = μ i := fun i hi => by rw [hμ']; simp only [hi, Bool.false_eq_true, if_false]
  have f3 : ∀ i, liveB hs i = true → liveB hs' i = true := fun i hi => by
    obtain ⟨_, k, hk⟩ := liveB_ex hi
    have : hget hs' i ≠ none := by rw [hhs']; exact applyW_some _ _ _ (by rw [hpad, hk]; simp)
    cases hq : hget hs' i with
    | none => exact absurd hq this
    | some k' => exact liveB_some hq
  have f5 : ∀ i, liveB hs' i = true → (∀ k, (i, k) ∉ wr) → liveB hs i = true ∧ hget hs' i = hget hs i := fun i hi hn => by
    have : hget hs' i = hget hs i := by rw [hhs', applyW_hget _ _ _ (fun p hp e => hn p.2 (by rw [← e]; exact hp)), hpad]
    obtain ⟨_, k, hk⟩ := liveB_ex hi
    exact ⟨liveB_some (this ▸ hk), this⟩
  have f4 : ∀ i, liveB hs' i = true → liveB hs i = true ∨ (hs.length ≤ i ∧ i < hs.length + nw) := fun i hi => by
    by_cases hm : ∃ k, (i, k) ∈ wr
    · obtain ⟨k, hk⟩ := hm
      rcases ok.wr _ hk with h1 | h1
      · exact .inr h1
      · exact .inl h1
    · exact .inl (f5 i hi (fun k hk => hm ⟨k, hk⟩)).1
  have fresh0 : ∀ i b x, μ0 i = some (b, x) → (∃ y, liveB hs i = true ∧ μ i = some (b, y)) ∨ w.heap.size ≤ b ∨ False := fun i b x hi => by
    rcases hx.fresh i b x hi with ⟨y, hy⟩ | hb
    · exact .inl ⟨y, hr2 i _ hy⟩
    · exact .inr (.inl hb)
  have hsame : ∀ i b x, liveB hs' i = false → μ i = some (b, x) → w'.heap[b]? = w.heap[b]? ∧ ∀ j y, μr j ≠ some (b, y) := fun i b x hi hm => by
    have hno : ∀ j y, μr j ≠ some (b, y) := fun j y hj => by
      obtain ⟨h1, h2⟩ := hr2 j _ hj
      have := r.inj i j b x y hm h2
      subst this
      rw [f3 i h1] at hi; cases hi
    exact ⟨hf.block b (r.dom i b x hm).2.1 hno, hno⟩
  have hmu : μ.le μ' := fun i x hi => by
    cases hl : liveB hs' i with
    | false => exact .inl ((f2 i hl).trans hi)
    | true =>
      rcases f4 i hl with h1 | h1
      · have := hx.mu i x ((hr1 i h1).trans hi)
        rw [f1 i hl]
        exact this
      · have := hfree (i - hs.length) (by omega)
        rw [show hs.length + (i - hs.length) = i by omega, hi] at this
        cases this
  have hx' : Ext φ μ w φ' μ' := ⟨hx.phi, hmu, fun i b x hi => by
    cases hl : liveB hs' i with
    | false => exact .inl ⟨x, (f2 i hl).symm.trans hi⟩
    | true =>
      rw [f1 i hl] at hi
      rcases fresh0 i b x hi with ⟨y, _, hy⟩ | hb | hb
      · exact .inl ⟨y, hy⟩
      · exact .inr hb
      · exact hb.elim, fun b o u hu => by
    rcases hx.cells b o u hu with h1 | h1 | ⟨i, y, h1⟩
    · exact .inl h1
    · exact .inr (.inl h1)
    · exact .inr (.inr ⟨i, y, (hr2 i _ h1).2⟩)⟩
  refine ⟨cv, he, φ', μ', refs_rv f1 hrv okr, ⟨hr.glob, hr.cell, hr.size, fun i j b x y hi hj => ?_, fun i b x hi => ?_, fun i k hk => ?_⟩, hx', ⟨hf.os, hf.tape, hf.output, hf.size, fun k hk hn => hf.block k hk (fun i x hi => hn i x (hr2 i _ hi).2), hf.loops⟩, fun i hi => ?_⟩
  · have cross : ∀ i j b x y, liveB hs' i = true → liveB hs' j = false → μ0 i = some (b, x) → μ j = some (b, y) → False := fun i j b x y li lj hi hj => by
      rcases fresh0 i b x hi with ⟨z, h1, h2⟩ | hb | hb
      · have := r.inj i j b z y h2 hj
        subst this
        rw [li] at lj; cases lj
      · have := (r.dom j b y hj).2.1; omega
      · exact hb
    cases li : liveB hs' i <;> cases lj : liveB hs' j
    · rw [f2 i li] at hi; rw [f2 j lj] at hj; exact r.inj i j b x y hi hj
    · rw [f2 i li] at hi; rw [f1 j lj] at hj; exact (cross j i b y x lj li hj hi).elim
    · rw [f1 i li] at hi; rw [f2 j lj] at hj; exact (cross i j b x y li lj hi hj).elim
    · rw [f1 i li] at hi; rw [f1 j lj] at hj; exact hr.inj i j b x y hi hj
  · rw [applyW_length]
    cases li : liveB hs' i with
    | false =>
      rw [f2 i li] at hi
      have := r.dom i b x hi
      have := hf.size
      omega
    | true =>
      rw [f1 i li] at hi
      have := hr.dom i b x hi
      omega
  · cases li : liveB hs' i with
    | true =>
      have hil := (liveB_ex li).1
      have e : hget (applyW h wr) i = hget hs' i := by
        rw [hhs']
        refine (applyW_same wr _ _ i (by simp; omega) (by omega) ?_).symm
        by_cases hm : ∃ k, (i, k) ∈ wr
        · exact .inl hm
        · obtain ⟨h1, h2⟩ := f5 i li (fun k hk => hm ⟨k, hk⟩)
          obtain ⟨_, k0, hk0⟩ := liveB_ex h1
          exact .inr (by rw [hpad, hk0, hag i k0 hk0])
      rw [e] at hk
      obtain ⟨b, x, h1, h2⟩ := hr.blk i k hk
      exact ⟨b, x, (f1 i li).trans h1, refs_blk f1 h2 (okb i k hk)⟩
    | false =>
      have hn : ∀ k', (i, k') ∉ wr := fun k' hk' => by
        have hil : i < (hs ++ List.replicate nw none).length := by
          simp only [List.length_append, List.length_replicate]
          rcases ok.wr _ hk' with h1 | h1
          · exact h1.2
          · have := (liveB_ex h1).1; simp only at this; omega
        have := applyW_mem wr (hs ++ List.replicate nw none) i k' hk' hil
        rw [← hhs'] at this
        cases hq : hget hs' i with
        | none => exact this hq
        | some k0 => rw [liveB_some hq] at li; cases li
      rw [applyW_hget _ _ _ (fun p hp e => hn p.2 (by rw [← e]; exact hp))] at hk
      obtain ⟨b, x, h1, h2⟩ := r.blk i k hk
      obtain ⟨g1, g2⟩ := hsame i b x li h1
      exact ⟨b, x, (f2 i li).trans h1, h2.mono hx'.phi hmu g1 (fun o u hu => by
        rcases hx.cells b o u hu with h3 | h3 | ⟨i', y, h3⟩
        · exact h3
        · have := (r.dom i b x h1).2.1; omega
        · exact absurd h3 (g2 i' y))⟩
  · cases li : liveB hs' i with
    | false => exact absurd (f2 i li) hi
    | true =>
      have hwr : ∃ k, (i, k) ∈ wr := by
        rcases Classical.em (∃ k, (i, k) ∈ wr) with hm | hm
        · exact hm
        · exfalso
          obtain ⟨h1, h2⟩ := f5 i li (fun k hk => hm ⟨k, hk⟩)
          obtain ⟨_, k0, hk0⟩ := liveB_ex h1
          apply hi
          rw [f1 i li, ← hr1 i h1]
          obtain ⟨b1, x1, a1, a2⟩ := rr.blk i k0 hk0
          obtain ⟨b2, x2, c1, c2⟩ := hr.blk i k0 (h2.trans hk0)
          have hnd := (ok.blks i k0 hk0).2
          have hxx : x1 = x2 := by
            cases k0 with
            | dead => exact absurd rfl hnd
            | cells => exact a2.1.trans c2.1.symm
            | grow => exact a2.1.trans c2.1.symm
            | token => exact a2.1.trans c2.1.symm
            | siter => exact a2.1.trans c2.1.symm
            | miter => exact a2.1.trans c2.1.symm
            | map => exact a2.1.trans c2.1.symm
            | mapc => exact a2.1.trans c2.1.symm
            | loop => exact a2.1.trans c2.1.symm
          subst hxx
          rcases hx.mu i _ a1 with q | ⟨m, b', m', q1, q2, q3⟩
          · rw [q, a1]
          · exfalso
            rw [c1] at q2
            simp only [Option.some.injEq, Prod.mk.injEq] at q2
            simp only at q1
            rw [q1] at q2
            simp only [Option.some.injEq] at q2
            omega
      refine ⟨hwr, ?_⟩
      rcases f4 i li with h1 | h1
      · refine .inr ?_
        obtain ⟨_, k0, hk0⟩ := liveB_ex h1
        obtain ⟨b1, x1, a1, a2⟩ := rr.blk i k0 hk0
        rw [← hr1 i h1, a1]; simp
      · exact .inl h1
end Go.Cx
