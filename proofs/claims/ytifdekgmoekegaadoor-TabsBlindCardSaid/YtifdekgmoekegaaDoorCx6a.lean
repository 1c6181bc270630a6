/- A calculus for calls of the program: canonical values and heaps, and what each operation, loop and call does to them; no condition on the program. -/
import Derived.Test.YtifdekgmoekegaaDoorCx6q
namespace Go.Cx
open Go.RowKit

/-! ### Values brought into form -/
def forceL {α β : Type} : List α → (List α → β) → β
  | [], k => k []
  | x :: xs, k => forceL xs fun ys => k (x :: ys)
theorem forceL_eq {α β : Type} : ∀ (l : List α) (k : List α → β), forceL l k = k l
  | [], _ => rfl
  | x :: xs, k => by rw [forceL, forceL_eq xs]

def nats : List Nat := [0, 1, 2, 3, 4, 5, 6, 7, 8, 9, 10, 11, 12, 13, 14, 15, 16, 17, 18, 19, 20, 21, 22, 23, 24, 25, 26, 27, 28, 29, 30, 31, 32, 33, 34, 35, 36, 37, 38, 39, 40, 41, 42, 43, 44, 45, 46, 47, 48, 49, 50, 51, 52, 53, 54, 55, 56, 57, 58, 59, 60, 61, 62, 63, 64, 65, 66, 67, 68, 69, 70, 71, 72, 73, 74, 75, 76, 77, 78, 79, 80, 81, 82, 83, 84, 85, 86, 87, 88, 89, 90, 91, 92, 93, 94, 95, 96, 97, 98, 99, 100, 101, 102, 103, 104, 105, 106, 107, 108, 109, 110, 111, 112, 113, 114, 115, 116, 117, 118, 119, 120, 121, 122, 123, 124, 125, 126, 127]
def natW {β : Type} : List Nat → Nat → Nat → (Nat → β) → β
  | [], _, i, k => k i
  | n :: _, 0, _, k => k n
  | _ :: ns, j + 1, i, k => natW ns j i k
theorem natW_eq {β : Type} (k : Nat → β) : ∀ (ns : List Nat) (a j i : Nat), ns = List.range' a ns.length → i = a + j → natW ns j i k = k i
  | [], _, _, _, _, _ => by simp [natW]
  | n :: ns, a, 0, i, h, hi => by
    simp only [List.length_cons, List.range'_succ, List.cons.injEq] at h
    rw [natW, h.1, hi, Nat.add_zero]
  | n :: ns, a, j + 1, i, h, hi => by
    simp only [List.length_cons, List.range'_succ, List.cons.injEq] at h
    rw [natW]
    exact natW_eq k ns (a + 1) j i h.2 (by omega)
theorem nats_range : nats = List.range' 0 nats.length := by kernel_rfl
def natL {β : Type} (i : Nat) (k : Nat → β) : β := natW nats i i k
theorem natL_eq {β : Type} (i : Nat) (k : Nat → β) : natL i k = k i := natW_eq k nats 0 i i nats_range (by omega)
def V.f0 {β : Type} (v : V) (k : V → β) : β :=
  match v with
  | .undef => k .undef
  | .bool b => k (.bool b)
  | .int i n => k (.int i n)
  | .str s => k (.str s)
  | .nilp => k .nilp
  | .ptr i o => k (.ptr i o)
  | .gptr i o v => k (.gptr i o v)
  | .iptr cs => k (.iptr cs)
  | .fn f a b => k (.fn f a b)
  | .nilfn => k .nilfn
  | .nils => k .nils
  | .psl s xs t => k (.psl s xs t)
  | .lsl i s o n c => k (.lsl i s o n c)
  | .gsl i s o n c e v => k (.gsl i s o n c e v)
  | .map i => k (.map i)
  | .nilm => k .nilm
  | .agg cs => k (.agg cs)
  | .tup vs => k (.tup vs)
  | .yld i => k (.yld i)
theorem V.f0_eq {β : Type} (v : V) (k : V → β) : v.f0 k = k v := by
  cases v <;> simp only [V.f0]
def fl0 {β : Type} : List V → (List V → β) → β
  | [], k => k []
  | x :: xs, k => x.f0 fun x => fl0 xs fun ys => k (x :: ys)
theorem fl0_eq {β : Type} : ∀ (l : List V) (k : List V → β), fl0 l k = k l
  | [], _ => rfl
  | x :: xs, k => by rw [fl0, V.f0_eq, fl0_eq xs]
def V.f1 {β : Type} (v : V) (k : V → β) : β :=
  match v with
  | .agg cs => fl0 cs fun cs => k (.agg cs)
  | .tup cs => fl0 cs fun cs => k (.tup cs)
  | .iptr cs => fl0 cs fun cs => k (.iptr cs)
  | .fn f a b => fl0 a fun a => fl0 b fun b => k (.fn f a b)
  | v => v.f0 k
theorem V.f1_eq {β : Type} (v : V) (k : V → β) : v.f1 k = k v := by
  cases v <;> simp [V.f1, fl0_eq, V.f0_eq]
def fl1 {β : Type} : List V → (List V → β) → β
  | [], k => k []
  | x :: xs, k => x.f1 fun x => fl1 xs fun ys => k (x :: ys)
theorem fl1_eq {β : Type} : ∀ (l : List V) (k : List V → β), fl1 l k = k l
  | [], _ => rfl
  | x :: xs, k => by rw [fl1, V.f1_eq, fl1_eq xs]
def V.force {β : Type} (v : V) (k : V → β) : β :=
  match v with
  | .tup cs => fl1 cs fun cs => k (.tup cs)
  | .agg cs => fl1 cs fun cs => k (.agg cs)
  | .fn f a b => fl1 a fun a => fl1 b fun b => k (.fn f a b)
  | v => v.f1 k
theorem V.force_eq {β : Type} (v : V) (k : V → β) : v.force k = k v := by
  cases v <;> simp [V.force, V.f1_eq, fl1_eq]
def fl2 {β : Type} : List V → (List V → β) → β
  | [], k => k []
  | x :: xs, k => x.force fun x => fl2 xs fun ys => k (x :: ys)
theorem fl2_eq {β : Type} : ∀ (l : List V) (k : List V → β), fl2 l k = k l
  | [], _ => rfl
  | x :: xs, k => by rw [fl2, V.force_eq, fl2_eq xs]
def fll {β : Type} : List (List V) → (List (List V) → β) → β
  | [], k => k []
  | x :: xs, k => forceL x fun x => fll xs fun ys => k (x :: ys)
theorem fll_eq {β : Type} : ∀ (l : List (List V)) (k : List (List V) → β), fll l k = k l
  | [], _ => rfl
  | x :: xs, k => by rw [fll, forceL_eq, fll_eq xs]

/-! ### Operations on memory, calls -/
theorem run_newObj' (P : Program) (w : World) (o : Obj) : (newObj o).run P w = .ok w.heap.size (w.alloc o) := rfl

def cellsOf : V → Option (List V)
  | .agg cs => some cs
  | .undef => none
  | .tup _ => none
  | v => some [v]

theorem cellsOf_ok {φ : Phi} {μ : Mu} {v : V} {c : Value} (h : Rv φ μ v c) {cs : List V} (hc : cellsOf v = some cs) : RvA φ μ cs c.cells := by
  cases h with
  | undef => cases hc
  | agg _ xs cs' l r => simp only [cellsOf, Option.some.injEq] at hc; subst hc; exact ⟨l, r⟩
  | tup => cases hc
  | bool _ b => simp only [cellsOf, Option.some.injEq] at hc; subst hc; exact ⟨rfl, fun j hj => by simp at hj; subst hj; exact .bool _ _⟩
  | int _ k n => simp only [cellsOf, Option.some.injEq] at hc; subst hc; exact ⟨rfl, fun j hj => by simp at hj; subst hj; exact .int _ _ _⟩
  | str _ s => simp only [cellsOf, Option.some.injEq] at hc; subst hc; exact ⟨rfl, fun j hj => by simp at hj; subst hj; exact .str _ _⟩
  | nilp => simp only [cellsOf, Option.some.injEq] at hc; subst hc; exact ⟨rfl, fun j hj => by simp at hj; subst hj; exact .nilp _⟩
  | nilm => simp only [cellsOf, Option.some.injEq] at hc; subst hc; exact ⟨rfl, fun j hj => by simp at hj; subst hj; exact .nilm _⟩
  | gptr _ id off ver b m a h1 h2 h3 => simp only [cellsOf, Option.some.injEq] at hc; subst hc; exact ⟨rfl, fun j hj => by simp at hj; subst hj; exact .gptr _ _ _ _ b m a h1 h2 h3⟩
  | gsl _ id sz off n lo ex ver b m cc a h1 h2 h3 h4 h5 h6 => simp only [cellsOf, Option.some.injEq] at hc; subst hc; exact ⟨rfl, fun j hj => by simp at hj; subst hj; exact .gsl _ _ _ _ _ _ _ _ b m cc a h1 h2 h3 h4 h5 h6⟩
  | yld _ id b h => simp only [cellsOf, Option.some.injEq] at hc; subst hc; exact ⟨rfl, fun j hj => by simp at hj; subst hj; exact .yld _ _ _ h⟩
  | ptr _ id off b h => simp only [cellsOf, Option.some.injEq] at hc; subst hc; exact ⟨rfl, fun j hj => by simp at hj; subst hj; exact .ptr _ _ _ _ h⟩
  | iptr _ cs b off c h1 h2 => simp only [cellsOf, Option.some.injEq] at hc; subst hc; exact ⟨rfl, fun j hj => by simp at hj; subst hj; exact .iptr _ _ _ _ c h1 h2⟩
  | fn _ f a b cf cc l1 l2 h1 h2 => simp only [cellsOf, Option.some.injEq] at hc; subst hc; exact ⟨rfl, fun j hj => by simp at hj; subst hj; exact .fn _ _ _ _ _ _ l1 l2 h1 h2⟩
  | nilfn => simp only [cellsOf, Option.some.injEq] at hc; subst hc; exact ⟨rfl, fun j hj => by simp at hj; subst hj; exact .nilfn _⟩
  | nils => simp only [cellsOf, Option.some.injEq] at hc; subst hc; exact ⟨rfl, fun j hj => by simp at hj; subst hj; exact .nils _⟩
  | psl0 => simp only [cellsOf, Option.some.injEq] at hc; subst hc; exact ⟨rfl, fun j hj => by simp at hj; subst hj; exact .psl0 _ _ _ _⟩
  | psl _ sz xs tok b off cap c h0 h1 h2 h3 h4 => simp only [cellsOf, Option.some.injEq] at hc; subst hc; exact ⟨rfl, fun j hj => by simp at hj; subst hj; exact .psl _ _ _ _ _ _ _ c h0 h1 h2 h3 h4⟩
  | lsl _ id sz off n cap b h h' => simp only [cellsOf, Option.some.injEq] at hc; subst hc; exact ⟨rfl, fun j hj => by simp at hj; subst hj; exact .lsl _ _ _ _ _ _ _ h h'⟩
  | map _ id b h => simp only [cellsOf, Option.some.injEq] at hc; subst hc; exact ⟨rfl, fun j hj => by simp at hj; subst hj; exact .map _ _ _ h⟩

/-- What is loaded: is it there, and what it is. -/
def loadT (T : Nat → Option TI) (t : Nat) (cs : List V) (q : Nat) : Option (Bool × V) :=
  match T t with
  | some ti => some (cond (isAggK ti.k) (Nat.ble (q + ti.size) cs.length, .agg ((cs.drop q).take ti.size)) (Nat.blt q cs.length, cs.getD q .undef))
  | none => none
def loadV (T : Nat → Option TI) (t : Nat) (cs : List V) (q : Nat) : Option V :=
  match T t with
  | some ti => cond (isAggK ti.k) (cond (Nat.ble (q + ti.size) cs.length) (some (.agg ((cs.drop q).take ti.size))) none) cs[q]?
  | none => none

/-- The run of a load: the cells are there. -/
theorem run_load_ok {P : Program} {T : Nat → Option TI} (hT : TOk P T) {φ : Phi} {μ : Mu} {w : World} {t b off q : Nat} {cs : List V} {c : Nat → Value} {v : V} (h : loadV T t cs q = some v)
    (hw : ∀ j, j < cs.length → w.cell? ⟨b, off + j, none⟩ = some (c j)) (hr : ∀ j, j < cs.length → Rv φ μ (cs.getD j .undef) (c j)) :
    ∃ cv, (Instr.loadAt t (.pointer (some ⟨b, off + q, none⟩))).run P w = .ok cv w ∧ Rv φ μ v cv := by
  unfold loadV at h
  split at h
  · rename_i ti hti
    obtain ⟨i, d, z, k⟩ := hT t ti hti
    have ha := run_isAgg k.und w
    rw [isAggK_eq k.kind] at ha
    cases hg : isAggK ti.k with
    | true =>
      rw [hg] at ha h
      simp only [cond_true] at h
      cases hl : Nat.ble (q + ti.size) cs.length with
      | false => rw [hl] at h; cases h
      | true =>
        rw [hl] at h
        simp only [cond_true, Option.some.injEq] at h
        subst h
        have hle : q + ti.size ≤ cs.length := Nat.le_of_ble_eq_true hl
        have hlen : ((List.range ti.size).map fun j => c (q + j)).length = ti.size := by simp
        have hrun := run_loadCells_list (P := P) w ⟨b, off + q, none⟩ ((List.range ti.size).map fun j => c (q + j)) (fun j u hu => by
          simp only [List.getElem?_map] at hu
          have hj : j < ti.size := by
            rcases Nat.lt_or_ge j ti.size with h' | h'
            · exact h'
            · rw [List.getElem?_eq_none (by simpa using h')] at hu; cases hu
          rw [List.getElem?_range hj] at hu
          simp only [Option.map_some, Option.some.injEq] at hu
          subst hu
          have := hw (q + j) (by omega)
          simp only [Addr.add]
          split
          · subst_vars; simpa using this
          · simpa [Nat.add_assoc] using this)
        rw [hlen] at hrun
        refine ⟨.agg ((List.range ti.size).map fun j => c (q + j)).toArray, ?_, .agg _ _ _ (by simp; omega) (fun j hj => ?_)⟩
        · simp only [Instr.loadAt, Instr.sureAddr, loadVar, Sem.run_bind, Sem.run_pure, Result.andThen_ok, ha, if_true, run_sizeOf k.info, k.size, hrun]
        · simp only [List.length_take, List.length_drop] at hj
          have hj' : j < ti.size := by omega
          have e1 : ((cs.drop q).take ti.size).getD j .undef = cs.getD (q + j) .undef := by simp [hj', List.getElem?_drop]
          have e2 : ((List.range ti.size).map fun j => c (q + j)).toArray.getD j Go.undef = c (q + j) := by simp [hj']
          rw [e1, e2]
          exact hr (q + j) (by omega)
    | false =>
      rw [hg] at ha h
      simp only [cond_false] at h
      obtain ⟨hl, he⟩ := List.getElem?_eq_some_iff.1 h
      refine ⟨c q, ?_, ?_⟩
      · simp only [Instr.loadAt, Instr.sureAddr, loadVar, Sem.run_bind, Sem.run_pure, Result.andThen_ok, ha, Bool.false_eq_true, if_false]
        simp only [run_load, hw q hl]
      · have := hr q hl
        rwa [List.getD_eq_getElem?_getD, h, Option.getD_some] at this
  · cases h

theorem loadT_V {T : Nat → Option TI} {t : Nat} {cs : List V} {q : Nat} {b : Bool} {v : V} (h : loadT T t cs q = some (b, v)) (hb : b = true) : loadV T t cs q = some v := by
  unfold loadT at h
  unfold loadV
  split at h
  · rename_i ti hti
    simp only [Option.some.injEq] at h
    cases hg : isAggK ti.k with
    | true =>
      rw [hg] at h
      simp only [cond_true, Prod.mk.injEq] at h ⊢
      rw [h.1, hb, h.2]; rfl
    | false =>
      rw [hg] at h
      simp only [cond_false, Prod.mk.injEq] at h ⊢
      have hl : q < cs.length := nblt_t (h.1.trans hb)
      rw [← h.2, List.getElem?_eq_getElem hl]
      simp [hl]
  · cases h

/-- What an operation comes to. -/
def Done (φ : Phi) (μ : Mu) (B : Nat) (w : World) (K : V → Heap → Prop) (cv : Value) (w' : World) : Prop :=
  ∃ v h' φ' μ', K v h' ∧ Rv φ' μ' v cv ∧ Rel φ' μ' B h' w' ∧ Ext φ μ w φ' μ' ∧ Fr μ w w'

/-- The same, no own block being new. -/
def DoneH (φ : Phi) (μ : Mu) (B : Nat) (w : World) (K : V → Heap → Prop) (cv : Value) (w' : World) : Prop :=
  ∃ v h' φ', K v h' ∧ Rv φ' μ v cv ∧ Rel φ' μ B h' w' ∧ Ext φ μ w φ' μ ∧ Fr μ w w'

theorem DoneH.done {φ : Phi} {μ : Mu} {B : Nat} {w : World} {K : V → Heap → Prop} {cv : Value} {w' : World} : DoneH φ μ B w K cv w' → Done φ μ B w K cv w'
  | ⟨v, h', φ', h1, h2, h3, h4, h5⟩ => ⟨v, h', φ', μ, h1, h2, h3, h4, h5⟩

theorem DoneH.here {φ : Phi} {μ : Mu} {B : Nat} {h : Heap} {w : World} {K : V → Heap → Prop} {v : V} {cv : Value} (hk : K v h) (hv : Rv φ μ v cv) (r : Rel φ μ B h w) : DoneH φ μ B w K cv w :=
  ⟨v, h, φ, hk, hv, r, Ext.refl _ _ _, Fr.refl _ _⟩

theorem Done.here {φ : Phi} {μ : Mu} {B : Nat} {h : Heap} {w : World} {K : V → Heap → Prop} {v : V} {cv : Value} (hk : K v h) (hv : Rv φ μ v cv) (r : Rel φ μ B h w) : Done φ μ B w K cv w :=
  ⟨v, h, φ, μ, hk, hv, r, Ext.refl _ _ _, Fr.refl _ _⟩

def allOne (vs : List V) : Bool := vs.all V.one


/-! ### Literals -/
theorem foldl_zip (off : Nat) : ∀ (l : List Value) (k : Nat) (cells : Array Value), off + k + l.length ≤ cells.size →
    ((l.zipIdx k).foldl (fun (cs : Array Value) (cj : Value × Nat) => cs.setIfInBounds (off + cj.2) cj.1) cells) = (cells.toList.take (off + k) ++ l ++ cells.toList.drop (off + k + l.length)).toArray
  | [], k, cells, _ => by simp
  | v :: l, k, cells, h => by
    simp only [List.length_cons] at h
    rw [List.zipIdx_cons, List.foldl_cons, foldl_zip off l (k + 1) _ (by simp; omega)]
    congr 1
    rw [Array.toList_setIfInBounds]
    have hi : off + k < cells.toList.length := by simp; omega
    apply List.ext_getElem?
    intro j
    have l1 : (cells.toList.set (off + k) v).length = cells.toList.length := by simp
    have l0 : cells.toList.length = cells.size := by simp
    by_cases h1 : j < off + k
    · rw [List.getElem?_append_left (by simp; omega), List.getElem?_append_left (by simp; omega), List.getElem?_take_of_lt (by omega), List.getElem?_set_ne (by omega), List.getElem?_append_left (by simp; omega), List.getElem?_append_left (by simp; omega), List.getElem?_take_of_lt h1]
    · by_cases h2 : j = off + k
      · subst h2
        rw [List.getElem?_append_left (by simp; omega), List.getElem?_append_left (by simp; omega), List.getElem?_take_of_lt (by omega), List.getElem?_set_self hi]
        rw [List.getElem?_append_left (by simp; omega), List.getElem?_append_right (by simp; omega)]
        have : off + k - (cells.toList.take (off + k)).length = 0 := by simp; omega
        rw [this]; simp
      · by_cases h3 : j < off + k + 1 + l.length
        · rw [List.getElem?_append_left (by simp; omega), List.getElem?_append_right (by simp; omega), List.getElem?_append_left (by simp; omega), List.getElem?_append_right (by simp; omega)]
          have e1 : (List.take (off + (k + 1)) (cells.toList.set (off + k) v)).length = off + k + 1 := by simp; omega
          have e2 : (List.take (off + k) cells.toList).length = off + k := by simp; omega
          rw [e1, e2]
          have : j - (off + k) = (j - (off + k + 1)) + 1 := by omega
          rw [this, List.getElem?_cons_succ]
        · rw [List.getElem?_append_right (by simp; omega), List.getElem?_append_right (by simp; omega), List.getElem?_drop, List.getElem?_drop]
          have e1 : (List.take (off + (k + 1)) (cells.toList.set (off + k) v) ++ l).length = off + k + 1 + l.length := by simp; omega
          have e2 : (List.take (off + k) cells.toList ++ v :: l).length = off + k + 1 + l.length := by simp; omega
          rw [e1, e2, List.getElem?_set_ne (by omega)]
          congr 1
          simp only [List.length_cons]
          omega

def fillV (place : Nat → Option (Nat × Nat)) : List V → List (Nat × V) → Option (List V)
  | cs, [] => some cs
  | cs, (i, v) :: rest =>
    match place i, cellsOf v with
    | some (off, sz), some vs => cond (vs.length == sz && Nat.ble (off + sz) cs.length) (fillV place (setL cs off vs) rest) none
    | _, _ => none

theorem fillV_ok {φ : Phi} {μ : Mu} (place : Nat → Option (Nat × Nat)) : ∀ (ps : List (Nat × V)) (qs : List (Nat × Value)) (cs : List V) (c : Array Value) (r : List V), RvA φ μ cs c → ps.length = qs.length →
    (∀ (j : Nat) (p : Nat × V) (q : Nat × Value), ps[j]? = some p → qs[j]? = some q → p.1 = q.1 ∧ Rv φ μ p.2 q.2) → fillV place cs ps = some r → ∃ r', Instr.fill place c qs = some r' ∧ RvA φ μ r r'
  | [], [], cs, c, r, hc, _, _, h => by
    simp only [fillV, Option.some.injEq] at h; subst h
    exact ⟨c, rfl, hc⟩
  | (i, v) :: ps, (i', u) :: qs, cs, c, r, hc, hl, hr, h => by
    obtain ⟨rfl, hv⟩ := hr 0 _ _ rfl rfl
    simp only at hv
    unfold fillV at h
    split at h
    · rename_i off sz vs hp hvs
      cases hcnd : (vs.length == sz && Nat.ble (off + sz) cs.length) with
      | false => rw [hcnd] at h; cases h
      | true =>
        rw [hcnd] at h
        simp only [Bool.and_eq_true, beq_iff_eq] at hcnd
        obtain ⟨h1, h2⟩ := hcnd
        have h2 := Nat.le_of_ble_eq_true h2
        simp only [cond_true] at h
        have hA := cellsOf_ok hv hvs
        have hsz : u.cells.size = sz := by rw [← hA.1, h1]
        have hlc := hc.1
        have hset : RvA φ μ (setL cs off vs) ((u.cells.zipIdx.foldl (fun (cs : Array Value) (cj : Value × Nat) => cs.setIfInBounds (off + cj.2) cj.1) c)) := by
          have e : u.cells.zipIdx.foldl (fun (cs : Array Value) (cj : Value × Nat) => cs.setIfInBounds (off + cj.2) cj.1) c = (u.cells.toList.zipIdx.foldl (fun (cs : Array Value) (cj : Value × Nat) => cs.setIfInBounds (off + cj.2) cj.1) c) := by
            rw [← Array.foldl_toList, Array.toList_zipIdx]
          rw [e, foldl_zip off u.cells.toList 0 c (by simp; omega)]
          have := setL_rvA hc (o := off) (vs := vs) (us := u.cells.toList) (by simp [hA.1]) (fun j hj => by
            have := hA.2 j hj
            have e : u.cells.toList.getD j Go.undef = u.cells.getD j Go.undef := by simp
            rw [e]; exact this) (by omega)
          simpa using this
        obtain ⟨r', g1, g2⟩ := fillV_ok place ps qs _ _ r hset (by simpa using hl) (fun j p q hp hq => hr (j + 1) p q hp hq) h
        refine ⟨r', ?_, g2⟩
        simp only [Instr.fill, hp]
        rw [if_neg (by simp; omega)]
        exact g1
    · cases h

def flatOf (n : Nat) : List V := List.replicate n .undef

theorem fillV_length (place : Nat → Option (Nat × Nat)) : ∀ (ps : List (Nat × V)) (cs r : List V), fillV place cs ps = some r → r.length = cs.length
  | [], cs, r, h => by simp only [fillV, Option.some.injEq] at h; subst h; rfl
  | (i, v) :: ps, cs, r, h => by
    unfold fillV at h
    split at h
    · rename_i off sz vs hp hvs
      cases hcnd : (vs.length == sz && Nat.ble (off + sz) cs.length) with
      | false => rw [hcnd] at h; cases h
      | true =>
        rw [hcnd] at h
        simp only [Bool.and_eq_true, beq_iff_eq] at hcnd
        have h2 := Nat.le_of_ble_eq_true hcnd.2
        rw [fillV_length place ps _ r h, setL_length (by omega)]
    · cases h

def chunks (sz : Nat) (flat : List V) : Nat → List (List V)
  | 0 => []
  | n + 1 => flat.take sz :: chunks sz (flat.drop sz) n

theorem chunks_length (sz : Nat) : ∀ (n : Nat) (flat : List V), (chunks sz flat n).length = n
  | 0, _ => rfl
  | n + 1, flat => by simp [chunks, chunks_length sz n]
theorem chunks_get (sz : Nat) : ∀ (n i : Nat) (flat : List V), i < n → (chunks sz flat n).getD i [] = (flat.drop (i * sz)).take sz
  | 0, i, _, h => by omega
  | n + 1, 0, flat, _ => by simp [chunks]
  | n + 1, i + 1, flat, h => by
    rw [chunks, List.getD_cons_succ, chunks_get sz n i _ (by omega), List.drop_drop]
    congr 2
    rw [Nat.add_mul]; omega

def sizeT (T : Nat → Option TI) (t : Nat) : Nat := match T t with | some ti => ti.size | none => 0

def buildV (T : Nat → Option TI) (t : Nat) (parts : List (Nat × V)) : Option V :=
  match T t with
  | some ti =>
    match ti.k, ti.zero with
    | .struct fs, .agg z =>
      cond (fs.all fun f => (T f.2).isSome)
        (match fillV (fun i => (fs.map fun f => (f.1, sizeT T f.2))[i]?) z parts with
        | some cs => some (.agg cs) | none => none) none
    | .arr _ e, .agg z =>
      (match T e with
      | some ei => (match fillV (fun i => some (i * ei.size, ei.size)) z parts with | some cs => some (.agg cs) | none => none)
      | none => none)
    | _, _ => none
  | none => none


end Go.Cx
