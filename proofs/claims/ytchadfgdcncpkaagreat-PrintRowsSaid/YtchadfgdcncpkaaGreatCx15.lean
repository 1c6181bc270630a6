/- A calculus for calls of the program: canonical values and heaps, and what each operation, loop and call does to them; no condition on the program. -/
import Derived.Test.YtchadfgdcncpkaaGreatCx13g
namespace Go.Cx
open Go.RowKit

/-! ### Arrays as tries, for runs in the kernel -/
inductive Tri (α : Type) where
  | nil
  | node (l : Tri α) (x : α) (r : Tri α)

def odd (i : Nat) : Bool := Nat.beq (Nat.mod i 2) 1
def half (i : Nat) : Nat := Nat.div i 2
def halfE (i : Nat) : Nat := Nat.sub (Nat.div i 2) 1

/-- By the recursor itself: the kernel does it quicker. -/
noncomputable def Tri.get {α : Type} (d : α) (t : Tri α) : Nat → α :=
  Tri.rec (motive := fun _ => Nat → α) (fun _ => d) (fun _ x _ gl gr i => cond (Nat.beq i 0) x (cond (Nat.beq (Nat.mod i 2) 1) (gl (Nat.div i 2)) (gr (Nat.sub (Nat.div i 2) 1)))) t
theorem Tri.get_nil {α : Type} (d : α) (i : Nat) : (Tri.nil : Tri α).get d i = d := rfl
theorem Tri.get_node {α : Type} (d : α) (l : Tri α) (x : α) (r : Tri α) (i : Nat) : (Tri.node l x r).get d i = cond (Nat.beq i 0) x (cond (odd i) (l.get d (half i)) (r.get d (halfE i))) := rfl

def Tri.putT {α : Type} (d v : α) : Nat → Tri α → Nat → Tri α
  | 0, t, _ => t
  | f + 1, .nil, i => cond (Nat.beq i 0) (.node .nil v .nil) (cond (odd i) (.node (putT d v f .nil (half i)) d .nil) (.node .nil d (putT d v f .nil (halfE i))))
  | f + 1, .node l x r, i => cond (Nat.beq i 0) (.node l v r) (cond (odd i) (.node (putT d v f l (half i)) x r) (.node l x (putT d v f r (halfE i))))

noncomputable def Tri.single {α β : Type} (d v : α) (f : Nat) : Nat → (Tri α → β) → β :=
  Nat.rec (motive := fun _ => Nat → (Tri α → β) → β) (fun _ k => k .nil)
    (fun _ ih i k => cond (Nat.beq i 0) (k (.node .nil v .nil)) (cond (Nat.beq (Nat.mod i 2) 1) (ih (Nat.div i 2) fun t => k (.node t d .nil)) (ih (Nat.sub (Nat.div i 2) 1) fun t => k (.node .nil d t)))) f
/-- At the fuel that is there; a path that is new takes as many steps at most. -/
noncomputable def Tri.put {α β : Type} (d v : α) (t : Tri α) : Nat → (Tri α → β) → β :=
  Tri.rec (motive := fun _ => Nat → (Tri α → β) → β) (fun i k => Tri.single d v 40 i k)
    (fun l x r ihl ihr i k => cond (Nat.beq i 0) (k (.node l v r)) (cond (Nat.beq (Nat.mod i 2) 1) (ihl (Nat.div i 2) fun t => k (.node t x r)) (ihr (Nat.sub (Nat.div i 2) 1) fun t => k (.node l x t)))) t

/-- The same, without what comes behind. -/
def Tri.put1 {α : Type} (d v : α) : Tri α → Nat → Tri α
  | .nil, i => Tri.putT d v 40 .nil i
  | .node l x r, i => cond (Nat.beq i 0) (.node l v r) (cond (odd i) (.node (put1 d v l (half i)) x r) (.node l x (put1 d v r (halfE i))))

theorem Tri.single_eq {α β : Type} (d v : α) : ∀ (f i : Nat) (k : Tri α → β), Tri.single d v f i k = k (Tri.putT d v f .nil i)
  | 0, _, _ => rfl
  | f + 1, i, k => by
    have h : Tri.single d v (f + 1) i k = cond (Nat.beq i 0) (k (.node .nil v .nil)) (cond (odd i) (Tri.single d v f (half i) fun t => k (.node t d .nil)) (Tri.single d v f (halfE i) fun t => k (.node .nil d t))) := rfl
    rw [h]
    simp only [Tri.putT]
    cases Nat.beq i 0 <;> cases odd i <;> simp only [cond_true, cond_false, Tri.single_eq d v f]

theorem Tri.put_eq {α β : Type} (d v : α) : ∀ (t : Tri α) (i : Nat) (k : Tri α → β), Tri.put d v t i k = k (Tri.put1 d v t i)
  | .nil, i, k => Tri.single_eq d v 40 i k
  | .node l x r, i, k => by
    have h : Tri.put d v (.node l x r) i k = cond (Nat.beq i 0) (k (.node l v r)) (cond (odd i) (Tri.put d v l (half i) fun t => k (.node t x r)) (Tri.put d v r (halfE i) fun t => k (.node l x t))) := rfl
    rw [h]
    simp only [Tri.put1]
    cases Nat.beq i 0 <;> cases odd i <;> simp only [cond_true, cond_false, Tri.put_eq d v]

theorem pos_cases (i : Nat) : (i = 0 ∧ Nat.beq i 0 = true) ∨ (i = 2 * half i + 1 ∧ Nat.beq i 0 = false ∧ odd i = true) ∨ (i = 2 * halfE i + 2 ∧ Nat.beq i 0 = false ∧ odd i = false) := by
  by_cases h0 : i = 0
  · exact .inl ⟨h0, by subst h0; rfl⟩
  · have hb : Nat.beq i 0 = false := by
      cases h : Nat.beq i 0 with
      | false => rfl
      | true => exact absurd (Nat.eq_of_beq_eq_true h) h0
    have hh : half i = i / 2 := rfl
    have he : halfE i = i / 2 - 1 := rfl
    by_cases ho : i % 2 = 1
    · refine .inr (.inl ⟨by omega, hb, ?_⟩)
      unfold odd; rw [show Nat.mod i 2 = 1 from ho]; rfl
    · refine .inr (.inr ⟨by omega, hb, ?_⟩)
      unfold odd; rw [show Nat.mod i 2 = 0 from by have : Nat.mod i 2 = i % 2 := rfl; omega]; rfl

theorem Tri.get_zero {α : Type} {d x : α} {l r : Tri α} {i : Nat} (h : Nat.beq i 0 = true) : (Tri.node l x r).get d i = x := by simp only [Tri.get_node, h, cond_true]
theorem Tri.get_odd {α : Type} {d x : α} {l r : Tri α} {i : Nat} (h : Nat.beq i 0 = false) (ho : odd i = true) : (Tri.node l x r).get d i = l.get d (half i) := by simp only [Tri.get_node, h, ho, cond_true, cond_false]
theorem Tri.get_even {α : Type} {d x : α} {l r : Tri α} {i : Nat} (h : Nat.beq i 0 = false) (ho : odd i = false) : (Tri.node l x r).get d i = r.get d (halfE i) := by simp only [Tri.get_node, h, ho, cond_false]

theorem Tri.get_putT {α : Type} (d v : α) : ∀ (f : Nat) (t : Tri α) (i j : Nat), i + 1 < 2 ^ f → (Tri.putT d v f t i).get d j = if j = i then v else t.get d j
  | 0, t, i, j, h => by simp at h
  | f + 1, t, i, j, h => by
    have hnode : ∀ (l : Tri α) (x : α) (r : Tri α), (Tri.putT d v (f + 1) (.node l x r) i).get d j = if j = i then v else (Tri.node l x r).get d j := fun l x r => by
      rw [Nat.pow_succ] at h
      simp only [Tri.putT]
      rcases pos_cases i with ⟨h1, h2⟩ | ⟨h1, h2, h3⟩ | ⟨h1, h2, h3⟩
      · simp only [h2, cond_true]
        rcases pos_cases j with ⟨g1, g2⟩ | ⟨g1, g2, g3⟩ | ⟨g1, g2, g3⟩
        · rw [Tri.get_zero g2, if_pos (by omega)]
        · rw [Tri.get_odd g2 g3, Tri.get_odd g2 g3, if_neg (by omega)]
        · rw [Tri.get_even g2 g3, Tri.get_even g2 g3, if_neg (by omega)]
      · simp only [h2, h3, cond_true, cond_false]
        rcases pos_cases j with ⟨g1, g2⟩ | ⟨g1, g2, g3⟩ | ⟨g1, g2, g3⟩
        · rw [Tri.get_zero g2, Tri.get_zero g2, if_neg (by omega)]
        · rw [Tri.get_odd g2 g3, Tri.get_odd g2 g3, Tri.get_putT d v f _ _ _ (by omega)]
          by_cases hij : j = i
          · subst hij; simp
          · rw [if_neg hij, if_neg (by omega)]
        · rw [Tri.get_even g2 g3, Tri.get_even g2 g3, if_neg (by omega)]
      · simp only [h2, h3, cond_false]
        rcases pos_cases j with ⟨g1, g2⟩ | ⟨g1, g2, g3⟩ | ⟨g1, g2, g3⟩
        · rw [Tri.get_zero g2, Tri.get_zero g2, if_neg (by omega)]
        · rw [Tri.get_odd g2 g3, Tri.get_odd g2 g3, if_neg (by omega)]
        · rw [Tri.get_even g2 g3, Tri.get_even g2 g3, Tri.get_putT d v f _ _ _ (by omega)]
          by_cases hij : j = i
          · subst hij; simp
          · rw [if_neg hij, if_neg (by omega)]
    cases t with
    | node l x r => exact hnode l x r
    | nil =>
      have := hnode .nil d .nil
      have e : (Tri.node .nil d .nil).get d j = (Tri.nil : Tri α).get d j := by
        rw [Tri.get_node, Tri.get_nil, Tri.get_nil]
        generalize Nat.beq j 0 = x1
        generalize odd j = x2
        cases x1 <;> cases x2 <;> rfl
      rw [e] at this
      exact this

theorem Tri.get_put1 {α : Type} (d v : α) : ∀ (t : Tri α) (i j : Nat), i + 1 < 2 ^ 40 → (Tri.put1 d v t i).get d j = if j = i then v else t.get d j
  | .nil, i, j, h => Tri.get_putT d v 40 .nil i j h
  | .node l x r, i, j, h => by
    simp only [Tri.put1]
    rcases pos_cases i with ⟨h1, h2⟩ | ⟨h1, h2, h3⟩ | ⟨h1, h2, h3⟩
    · simp only [h2, cond_true]
      rcases pos_cases j with ⟨g1, g2⟩ | ⟨g1, g2, g3⟩ | ⟨g1, g2, g3⟩
      · rw [Tri.get_zero g2, if_pos (by omega)]
      · rw [Tri.get_odd g2 g3, Tri.get_odd g2 g3, if_neg (by omega)]
      · rw [Tri.get_even g2 g3, Tri.get_even g2 g3, if_neg (by omega)]
    · simp only [h2, h3, cond_true, cond_false]
      rcases pos_cases j with ⟨g1, g2⟩ | ⟨g1, g2, g3⟩ | ⟨g1, g2, g3⟩
      · rw [Tri.get_zero g2, Tri.get_zero g2, if_neg (by omega)]
      · rw [Tri.get_odd g2 g3, Tri.get_odd g2 g3, Tri.get_put1 d v _ _ _ (by omega)]
        by_cases hij : j = i
        · subst hij; simp
        · rw [if_neg hij, if_neg (by omega)]
      · rw [Tri.get_even g2 g3, Tri.get_even g2 g3, if_neg (by omega)]
    · simp only [h2, h3, cond_false]
      rcases pos_cases j with ⟨g1, g2⟩ | ⟨g1, g2, g3⟩ | ⟨g1, g2, g3⟩
      · rw [Tri.get_zero g2, Tri.get_zero g2, if_neg (by omega)]
      · rw [Tri.get_odd g2 g3, Tri.get_odd g2 g3, if_neg (by omega)]
      · rw [Tri.get_even g2 g3, Tri.get_even g2 g3, Tri.get_put1 d v _ _ _ (by omega)]
        by_cases hij : j = i
        · subst hij; simp
        · rw [if_neg hij, if_neg (by omega)]

/-- All that is written, with its places. -/
def Tri.ents {α : Type} : Tri α → (Nat → Nat) → List (Nat × α)
  | .nil, _ => []
  | .node l x r, f => (f 0, x) :: (l.ents (fun j => f (2 * j + 1)) ++ r.ents (fun j => f (2 * j + 2)))

theorem Tri.ents_sound {α : Type} (d : α) : ∀ (t : Tri α) (f : Nat → Nat) (i : Nat) (x : α), (i, x) ∈ t.ents f → ∃ j, i = f j ∧ t.get d j = x
  | .nil, f, i, x, h => by cases h
  | .node l y r, f, i, x, h => by
    simp only [Tri.ents, List.mem_cons, List.mem_append, Prod.mk.injEq] at h
    rcases h with ⟨rfl, rfl⟩ | h | h
    · exact ⟨0, rfl, Tri.get_zero rfl⟩
    · obtain ⟨j, h1, h2⟩ := Tri.ents_sound d l _ _ _ h
      refine ⟨2 * j + 1, h1, ?_⟩
      rcases pos_cases (2 * j + 1) with ⟨g1, g2⟩ | ⟨g1, g2, g3⟩ | ⟨g1, g2, g3⟩
      · omega
      · rw [Tri.get_odd g2 g3, show half (2 * j + 1) = j by omega]; exact h2
      · omega
    · obtain ⟨j, h1, h2⟩ := Tri.ents_sound d r _ _ _ h
      refine ⟨2 * j + 2, h1, ?_⟩
      rcases pos_cases (2 * j + 2) with ⟨g1, g2⟩ | ⟨g1, g2, g3⟩ | ⟨g1, g2, g3⟩
      · omega
      · omega
      · rw [Tri.get_even g2 g3, show halfE (2 * j + 2) = j by omega]; exact h2

theorem Tri.ents_all {α : Type} (d : α) : ∀ (t : Tri α) (f : Nat → Nat) (j : Nat), t.get d j ≠ d → (f j, t.get d j) ∈ t.ents f
  | .nil, f, j, h => absurd rfl h
  | .node l y r, f, j, h => by
    simp only [Tri.ents, List.mem_cons, List.mem_append]
    rcases pos_cases j with ⟨g1, g2⟩ | ⟨g1, g2, g3⟩ | ⟨g1, g2, g3⟩
    · rw [Tri.get_zero g2, g1]; exact .inl rfl
    · rw [Tri.get_odd g2 g3] at h ⊢
      have := Tri.ents_all d l (fun j => f (2 * j + 1)) (half j) h
      simp only [← g1] at this
      exact .inr (.inl this)
    · rw [Tri.get_even g2 g3] at h ⊢
      have := Tri.ents_all d r (fun j => f (2 * j + 2)) (halfE j) h
      simp only [← g1] at this
      exact .inr (.inr this)

structure Arr (α : Type) where
  t : Tri α
  n : Nat
abbrev Ea := Arr V
abbrev Hp := Arr (Option Blk)

/-- What a run comes to. -/
structure Res where
  x : X
  e : Ea
  v : V
  h : Hp
abbrev R := Option Res

def forceN {β : Type} (n : Nat) (k : Nat → β) : β := Nat.casesOn (motive := fun _ => β) n (k 0) (fun m => k (Nat.succ m))
theorem forceN_eq {β : Type} (n : Nat) (k : Nat → β) : forceN n k = k n := by cases n <;> rfl

noncomputable def Arr.set {α : Type} (d v : α) (a : Arr α) (i : Nat) (k : Arr α → R) : R :=
  cond (Nat.blt i a.n) (cond (Nat.blt i 1000000000000) (Tri.put d v a.t i fun t => k ⟨t, a.n⟩) none) none

theorem gd_some {b : Bool} {x : R} {r : Res} (h : cond b x none = some r) : b = true ∧ x = some r := by
  cases b
  · cases h
  · exact ⟨rfl, h⟩
theorem gdP {b : Bool} {X : Prop} (h : b = true) (x : X) : cond b X False := by subst h; exact x

theorem Arr.set_ok {α : Type} {d v : α} {a : Arr α} {i : Nat} {k : Arr α → R} {r : Res} (h : a.set d v i k = some r) : ∃ a', k a' = some r ∧ a'.n = a.n ∧ i < a.n ∧ ∀ j, a'.t.get d j = if j = i then v else a.t.get d j := by
  unfold Arr.set at h
  obtain ⟨h1, h2⟩ := gd_some h
  obtain ⟨h3, h4⟩ := gd_some h2
  rw [Tri.put_eq] at h4
  simp only [Nat.blt_eq] at h1 h3
  exact ⟨_, h4, rfl, h1, fun j => Tri.get_put1 d v _ _ _ (by omega)⟩

def ER (l : List V) (e : Ea) : Prop := l.length = e.n ∧ ∀ j, l.getD j .undef = e.t.get .undef j
def HR (h : Heap) (H : Hp) : Prop := h.length = H.n ∧ ∀ i, hget h i = H.t.get none i

theorem ER.set {l : List V} {e : Ea} (hl : ER l e) {v : V} {d : Nat} {k : Ea → R} {r : Res} (h : e.set .undef v d k = some r) : ∃ e', k e' = some r ∧ ER (l.set d v) e' := by
  obtain ⟨e', h1, h2, h3, h4⟩ := Arr.set_ok h
  refine ⟨e', h1, by rw [List.length_set, hl.1, h2], fun j => ?_⟩
  rw [h4, getD_set]
  have := hl.1
  by_cases hj : j = d
  · subst hj; rw [if_pos ⟨rfl, by omega⟩, if_pos rfl]
  · rw [if_neg (fun e => hj e.1.symm), if_neg hj]; exact hl.2 j

theorem HR.set {h : Heap} {H : Hp} (hh : HR h H) {b : Option Blk} {i : Nat} {k : Hp → R} {r : Res} (hk : H.set none b i k = some r) : ∃ H', k H' = some r ∧ HR (h.set i b) H' := by
  obtain ⟨H', h1, h2, h3, h4⟩ := Arr.set_ok hk
  refine ⟨H', h1, by rw [List.length_set, hh.1, h2], fun j => ?_⟩
  rw [h4, hget_set]
  have := hh.1
  by_cases hj : j = i
  · subst hj; rw [if_pos ⟨rfl, by omega⟩, if_pos rfl]
  · rw [if_neg (fun e => hj e.1.symm), if_neg hj]; exact hh.2 j

theorem HR.grow {h : Heap} {H : Hp} (hh : HR h H) (n : Nat) : HR (h ++ List.replicate n none) ⟨H.t, H.n + n⟩ :=
  ⟨by simp [hh.1], fun i => by rw [hget_pad]; exact hh.2 i⟩

theorem heap_ext {h h' : Heap} (hl : h.length = h'.length) (hg : ∀ i, hget h i = hget h' i) : h = h' := by
  apply List.ext_getElem? 
  intro i
  have := hg i
  unfold hget at this
  rcases Nat.lt_or_ge i h.length with hi | hi
  · rw [List.getElem?_eq_getElem hi, List.getElem?_eq_getElem (by omega)] at this ⊢
    simpa using this
  · rw [List.getElem?_eq_none hi, List.getElem?_eq_none (by omega)]

theorem HR.eq {h h' : Heap} {H : Hp} (a : HR h H) (b : HR h' H) : h = h' := heap_ext (a.1.trans b.1.symm) fun i => (a.2 i).trans (b.2 i).symm

/-! ### Values brought into form, in runs -/
def forceI {β : Type} (n : Int) (k : Int → β) : β := Int.casesOn (motive := fun _ => β) n (fun m => forceN m fun m => k (Int.ofNat m)) (fun m => forceN m fun m => k (Int.negSucc m))
theorem forceI_eq {β : Type} (n : Int) (k : Int → β) : forceI n k = k n := by cases n <;> simp only [forceI, forceN_eq]
def fBytes {β : Type} : List UInt8 → (List UInt8 → β) → β
  | [], k => k []
  | x :: xs, k => forceN x.toNat fun n => fBytes xs fun ys => k (UInt8.ofNat n :: ys)
theorem fBytes_eq {β : Type} : ∀ (l : List UInt8) (k : List UInt8 → β), fBytes l k = k l
  | [], _ => rfl
  | x :: xs, k => by rw [fBytes, forceN_eq, fBytes_eq xs, UInt8.ofNat_toNat]
def forceS {β : Type} (s : ByteArray) (k : ByteArray → β) : β := fBytes s.data.toList fun l => k ⟨⟨l⟩⟩
theorem forceS_eq {β : Type} (s : ByteArray) (k : ByteArray → β) : forceS s k = k s := by simp only [forceS, fBytes_eq]

/-- Numbers and texts at the top. -/
def V.n0 {β : Type} (v : V) (k : V → β) : β :=
  match v with
  | .int i n => forceI n fun n => k (.int i n)
  | .str s => forceS s fun s => k (.str s)
  | .bool true => k (.bool true)
  | .bool false => k (.bool false)
  | .ptr i o => forceN i fun i => forceN o fun o => k (.ptr i o)
  | .gptr i o v => forceN i fun i => forceN o fun o => forceN v fun v => k (.gptr i o v)
  | .lsl i s o n c => forceN i fun i => forceN s fun s => forceN o fun o => forceN n fun n => forceN c fun c => k (.lsl i s o n c)
  | .gsl i s o n c e v => forceN i fun i => forceN s fun s => forceN o fun o => forceN n fun n => forceN c fun c => forceN v fun v => k (.gsl i s o n c e v)
  | .map i => forceN i fun i => k (.map i)
  | v => v.f0 k
theorem V.n0_eq {β : Type} (v : V) (k : V → β) : v.n0 k = k v := by
  unfold V.n0
  split <;> simp only [forceI_eq, forceS_eq, forceN_eq, V.f0_eq]
def fln {β : Type} : List V → (List V → β) → β
  | [], k => k []
  | x :: xs, k => x.n0 fun x => fln xs fun ys => k (x :: ys)
theorem fln_eq {β : Type} : ∀ (l : List V) (k : List V → β), fln l k = k l
  | [], _ => rfl
  | x :: xs, k => by rw [fln, V.n0_eq, fln_eq xs]
/-- All numbers and texts are new, or may be. -/
def V.n1 {β : Type} (v : V) (k : V → β) : β :=
  match v with
  | .agg cs => fln cs fun cs => k (.agg cs)
  | .tup cs => fln cs fun cs => k (.tup cs)
  | .psl s xs t => fll xs fun xs => k (.psl s xs t)
  | .iptr cs => forceL cs fun cs => k (.iptr cs)
  | v => v.n0 k
theorem V.n1_eq {β : Type} (v : V) (k : V → β) : v.n1 k = k v := by
  unfold V.n1
  split <;> simp only [fln_eq, fll_eq, forceL_eq, V.n0_eq]
/-- The parts are in form. -/
def V.m1 {β : Type} (v : V) (k : V → β) : β :=
  match v with
  | .agg cs => forceL cs fun cs => k (.agg cs)
  | .tup cs => forceL cs fun cs => k (.tup cs)
  | .iptr cs => forceL cs fun cs => k (.iptr cs)
  | .fn f a b => fl0 a fun a => fl0 b fun b => k (.fn f a b)
  | .ptr i o => forceN i fun i => forceN o fun o => k (.ptr i o)
  | .gptr i o v => forceN i fun i => forceN o fun o => forceN v fun v => k (.gptr i o v)
  | v => v.f0 k
theorem V.m1_eq {β : Type} (v : V) (k : V → β) : v.m1 k = k v := by
  unfold V.m1
  split <;> simp only [forceL_eq, forceN_eq, V.f0_eq, fl0_eq]

/-- Operations whose outcome holds but what was there. -/
def oldOp : Op → Bool
  | .store .. | .load .. | .move .. | .assign .. | .pick .. | .extract .. | .field .. | .fieldAddr .. | .lookup .. | .makeFunc .. | .nilCheck .. | .entry .. => true
  | _ => false
def V.fo {β : Type} (o : Bool) (v : V) (k : V → β) : β := cond o (v.m1 k) (v.n1 k)
theorem V.fo_eq {β : Type} (o : Bool) (v : V) (k : V → β) : v.fo o k = k v := by cases o <;> simp only [V.fo, cond_true, cond_false, V.m1_eq, V.n1_eq]
def fmap {β : Type} : List (V × V × Nat) → (List (V × V × Nat) → β) → β
  | [], k => k []
  | x :: xs, k => x.1.m1 fun a => x.2.1.m1 fun b => forceN x.2.2 fun n => fmap xs fun ys => k ((a, b, n) :: ys)
theorem fmap_eq {β : Type} : ∀ (l : List (V × V × Nat)) (k : List (V × V × Nat) → β), fmap l k = k l
  | [], _ => rfl
  | x :: xs, k => by rw [fmap, V.m1_eq, V.m1_eq, forceN_eq, fmap_eq xs]
def fmapc {β : Type} : List (V × V) → (List (V × V) → β) → β
  | [], k => k []
  | x :: xs, k => x.1.m1 fun a => x.2.m1 fun b => fmapc xs fun ys => k ((a, b) :: ys)
theorem fmapc_eq {β : Type} : ∀ (l : List (V × V)) (k : List (V × V) → β), fmapc l k = k l
  | [], _ => rfl
  | x :: xs, k => by rw [fmapc, V.m1_eq, V.m1_eq, fmapc_eq xs]
def Blk.fo {β : Type} (o : Bool) (b : Blk) (k : Blk → β) : β :=
  match b with
  | .cells e cs => cond o (forceL cs fun cs => k (.cells e cs)) (fln cs fun cs => k (.cells e cs))
  | .token a b => forceN a fun a => forceN b fun b => k (.token a b)
  | .grow v e s cs => forceN v fun v => forceN s fun s => cond o (forceL cs fun cs => k (.grow v e s cs)) (fln cs fun cs => k (.grow v e s cs))
  | .dead => k .dead
  | .siter s p => forceN p fun p => k (.siter s p)
  | .miter a b c d => forceN b fun b => forceL c fun c => forceN d fun d => k (.miter a b c d)
  | .map es c => fmap es fun es => forceN c fun c => k (.map es c)
  | .mapc es c => fmapc es fun es => forceN c fun c => k (.mapc es c)
  | b => k b
theorem Blk.fo_eq {β : Type} (o : Bool) (b : Blk) (k : Blk → β) : b.fo o k = k b := by
  unfold Blk.fo
  split <;> cases o <;> simp only [cond_true, cond_false, forceL_eq, fln_eq, forceN_eq, fmap_eq, fmapc_eq]

noncomputable def applyH (o : Bool) : List (Nat × Blk) → Hp → (Hp → R) → R
  | [], H, k => k H
  | p :: wr, H, k => p.2.fo o fun b => H.set none (some b) p.1 fun H' => applyH o wr H' k
theorem applyH_ok {o : Bool} {r : Res} : ∀ (wr : List (Nat × Blk)) (h : Heap) (H : Hp) (k : Hp → R), HR h H → applyH o wr H k = some r → ∃ H', k H' = some r ∧ HR (applyW h wr) H'
  | [], h, H, k, hh, hk => ⟨H, hk, hh⟩
  | p :: wr, h, H, k, hh, hk => by
    rw [applyH, Blk.fo_eq] at hk
    obtain ⟨H1, h1, h2⟩ := hh.set hk
    exact applyH_ok wr _ H1 k h2 h1

/-! ### Environments -/
noncomputable def evT (e : Ea) (x : Operand) : V :=
  match x with
  | .tmp t => e.t.get .undef t
  | .const v => ofC v
  | .global g => (match globTab g with | some cs => .iptr cs | none => .undef)
  | .func f => .fn (.func f) [] []
theorem ER.ev {l : List V} {e : Ea} (h : ER l e) : evT e = evE l := by
  funext x
  cases x with
  | tmp t => exact (h.2 t).symm
  | _ => rfl
theorem HR.hget {h : Heap} {H : Hp} (hh : HR h H) : H.t.get none = Cx.hget h := by
  funext i
  exact (hh.2 i).symm

noncomputable def putArgs : List V → Nat → Ea → (Ea → R) → R
  | [], _, e, k => k e
  | v :: vs, i, e, k => e.set .undef v i fun e' => forceN (Nat.succ i) fun i' => putArgs vs i' e' k
theorem putArgs_ok {r : Res} : ∀ (vs : List V) (i : Nat) (e : Ea) (k : Ea → R), putArgs vs i e k = some r → ∃ e', k e' = some r ∧ e'.n = e.n ∧ i + vs.length ≤ max e.n i ∧ ∀ j, e'.t.get .undef j = if i ≤ j ∧ j < i + vs.length then vs.getD (j - i) .undef else e.t.get .undef j
  | [], i, e, k, h => ⟨e, h, rfl, by simp; omega, fun j => by rw [if_neg (by simp)]⟩
  | v :: vs, i, e, k, h => by
    obtain ⟨e1, h1, h2, h3, h4⟩ := Arr.set_ok h
    rw [forceN_eq] at h1
    obtain ⟨e', g1, g2, g3, g4⟩ := putArgs_ok vs _ e1 k h1
    refine ⟨e', g1, g2.trans h2, by rw [h2] at g3; simp; omega, fun j => ?_⟩
    rw [g4, h4]
    simp only [List.length_cons]
    by_cases hj : j = i
    · subst hj
      rw [if_neg (by omega), if_pos rfl, if_pos (by omega), Nat.sub_self]
      rfl
    · rw [if_neg hj]
      by_cases hr : i ≤ j ∧ j < i + (vs.length + 1)
      · rw [if_pos (by omega), if_pos hr]
        obtain ⟨m, rfl⟩ : ∃ m, j = i + 1 + m := ⟨j - (i + 1), by omega⟩
        rw [show i + 1 + m - Nat.succ i = m by omega, show i + 1 + m - i = m + 1 by omega, List.getD_cons_succ]
      · rw [if_neg (by omega), if_neg hr]

noncomputable def startE (args : List V) (n : Nat) (k : Ea → R) : R := forceN args.length fun m => forceN (Nat.add m (Nat.sub n m)) fun n' => putArgs args 0 ⟨.nil, n'⟩ k
theorem startE_ok {args : List V} {n : Nat} {k : Ea → R} {r : Res} (h : startE args n k = some r) : ∃ e, k e = some r ∧ ER (args ++ List.replicate (n - args.length) .undef) e := by
  unfold startE at h
  simp only [forceN_eq] at h
  obtain ⟨e, h1, h2, h3, h4⟩ := putArgs_ok _ _ _ _ h
  refine ⟨e, h1, ?_, fun j => ?_⟩
  · rw [h2]
    simp only [List.length_append, List.length_replicate]
    rfl
  · rw [h4]
    by_cases hj : j < args.length
    · rw [if_pos (by omega), List.getD_eq_getElem?_getD, List.getElem?_append_left hj, ← List.getD_eq_getElem?_getD, Nat.sub_zero]
    · rw [if_neg (by omega), List.getD_eq_getElem?_getD, List.getElem?_append_right (Nat.le_of_not_lt hj), List.getElem?_replicate]
      split <;> rfl

/-- Written out as a list. -/
noncomputable def toLF (e : Ea) : Nat → List V → List V
  | 0, acc => acc
  | n + 1, acc => toLF e n (e.t.get .undef n :: acc)
noncomputable def toL (e : Ea) (k : List V → R) : R := fl2 (toLF e e.n []) k
theorem toLF_spec (e : Ea) : ∀ (n : Nat) (acc : List V), (toLF e n acc).length = n + acc.length ∧ ∀ j, (toLF e n acc).getD j .undef = if j < n then e.t.get .undef j else acc.getD (j - n) .undef
  | 0, acc => ⟨by simp [toLF], fun j => by simp [toLF]⟩
  | n + 1, acc => by
    obtain ⟨h1, h2⟩ := toLF_spec e n (e.t.get .undef n :: acc)
    refine ⟨by rw [toLF, h1]; simp; omega, fun j => ?_⟩
    rw [toLF, h2]
    by_cases hj : j < n
    · rw [if_pos hj, if_pos (by omega)]
    · rw [if_neg hj]
      by_cases hjn : j = n
      · subst hjn; simp
      · rw [if_neg (by omega)]
        obtain ⟨m, rfl⟩ : ∃ m, j = n + 1 + m := ⟨j - (n + 1), by omega⟩
        rw [show n + 1 + m - n = m + 1 by omega, show n + 1 + m - (n + 1) = m by omega, List.getD_cons_succ]
theorem list_ext_getD {l l' : List V} (hl : l.length = l'.length) (h : ∀ j, l.getD j .undef = l'.getD j .undef) : l = l' := by
  apply List.ext_getElem hl
  intro i h1 h2
  have := h i
  simpa [List.getD_eq_getElem?_getD, h1, h2] using this
theorem toL_ok {l : List V} {e : Ea} (h : ER l e) {k : List V → R} : toL e k = k l := by
  unfold toL
  rw [fl2_eq]
  congr 1
  obtain ⟨h1, h2⟩ := toLF_spec e e.n []
  refine list_ext_getD (by rw [h1, h.1]; simp) fun j => ?_
  rw [h2, h.2]
  split
  · rfl
  · rename_i hj
    have h3 := h.2 j
    have h4 : l.getD j .undef = .undef := by rw [List.getD_eq_getElem?_getD, List.getElem?_eq_none (by rw [h.1]; omega)]; rfl
    rw [← h3, h4]
    simp
/-- And back. -/
noncomputable def ofL (l : List V) (k : Ea → R) : R := forceN l.length fun n => putArgs l 0 ⟨.nil, n⟩ k
theorem ofL_ok {l : List V} {k : Ea → R} {r : Res} (h : ofL l k = some r) : ∃ e, k e = some r ∧ ER l e := by
  unfold ofL at h
  rw [forceN_eq] at h
  obtain ⟨e, h1, h2, h3, h4⟩ := putArgs_ok _ _ _ _ h
  refine ⟨e, h1, h2.symm, fun j => ?_⟩
  rw [h4]
  by_cases hj : j < l.length
  · rw [if_pos (by omega), Nat.sub_zero]
  · rw [if_neg (by omega), List.getD_eq_getElem?_getD, List.getElem?_eq_none (by omega)]; rfl
end Go.Cx
