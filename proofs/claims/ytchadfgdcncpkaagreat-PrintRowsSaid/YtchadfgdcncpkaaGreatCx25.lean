/- A calculus for calls of the program: canonical values and heaps, and what each operation, loop and call does to them; no condition on the program. -/
import Derived.Test.YtchadfgdcncpkaaGreatCx24
namespace Go.Cx
open Go.RowKit
/-! ### A call in whose heap the callee's blocks stand first -/
theorem mv1_id {f : Nat → Nat} {m : Nat} (hf : ∀ i, i < m → f i = i) {v : V} (h : v.under1 m = true) : v.mv1 f = v := by
  have lt : ∀ {i : Nat}, Nat.blt i m = true → f i = i := fun hi => hf _ (by rwa [Nat.blt_eq] at hi)
  cases v with
  | ptr i o => exact congrArg (V.ptr · o) (lt h)
  | gptr i o v => exact congrArg (V.gptr · o v) (lt h)
  | lsl i sz o n c => exact congrArg (V.lsl · sz o n c) (lt h)
  | gsl i sz o n lo ex v => exact congrArg (V.gsl · sz o n lo ex v) (lt h)
  | map i => exact congrArg V.map (lt h)
  | yld i => exact congrArg V.yld (lt h)
  | psl sz xs t =>
    cases t with
    | own i => exact congrArg (fun j => V.psl sz xs (.own j)) (lt h)
    | any => rfl
    | exact => rfl
  | _ => rfl
theorem map_id' {f : V → V} {p : V → Bool} (hf : ∀ v, p v = true → f v = v) : ∀ {l : List V}, l.all p = true → l.map f = l
  | [], _ => rfl
  | x :: l, h => by
    rw [List.all_cons, Bool.and_eq_true] at h
    rw [List.map_cons, hf x h.1, map_id' hf h.2]
theorem mv2_id {f : Nat → Nat} {m : Nat} (hf : ∀ i, i < m → f i = i) {v : V} (h : v.under2 m = true) : v.mv2 f = v := by
  cases v with
  | fn g a b =>
    have h : (a.all (V.under1 m) && b.all (V.under1 m)) = true := h
    rw [Bool.and_eq_true] at h
    exact congr (congrArg (V.fn g) (map_id' (fun v hv => mv1_id hf hv) h.1)) (map_id' (fun v hv => mv1_id hf hv) h.2)
  | agg cs => exact congrArg V.agg (map_id' (fun v hv => mv1_id hf hv) h)
  | tup cs => exact congrArg V.tup (map_id' (fun v hv => mv1_id hf hv) h)
  | ptr i o => exact mv1_id (v := .ptr i o) hf h
  | gptr i o w => exact mv1_id (v := .gptr i o w) hf h
  | lsl i a b c d => exact mv1_id (v := .lsl i a b c d) hf h
  | gsl i a b c d x y => exact mv1_id (v := .gsl i a b c d x y) hf h
  | map i => exact mv1_id (v := .map i) hf h
  | yld i => exact mv1_id (v := .yld i) hf h
  | psl a b t => exact mv1_id (v := .psl a b t) hf h
  | _ => rfl
theorem mv_id {f : Nat → Nat} {m : Nat} (hf : ∀ i, i < m → f i = i) {v : V} (h : v.under m = true) : v.mv f = v := by
  cases v with
  | fn g a b =>
    have h : (a.all (V.under2 m) && b.all (V.under2 m)) = true := h
    rw [Bool.and_eq_true] at h
    exact congr (congrArg (V.fn g) (map_id' (fun v hv => mv2_id hf hv) h.1)) (map_id' (fun v hv => mv2_id hf hv) h.2)
  | agg cs => exact congrArg V.agg (map_id' (fun v hv => mv2_id hf hv) h)
  | tup cs => exact congrArg V.tup (map_id' (fun v hv => mv2_id hf hv) h)
  | ptr i o => exact mv1_id (v := .ptr i o) hf h
  | gptr i o w => exact mv1_id (v := .gptr i o w) hf h
  | lsl i a b c d => exact mv1_id (v := .lsl i a b c d) hf h
  | gsl i a b c d x y => exact mv1_id (v := .gsl i a b c d x y) hf h
  | map i => exact mv1_id (v := .map i) hf h
  | yld i => exact mv1_id (v := .yld i) hf h
  | psl a b t => exact mv1_id (v := .psl a b t) hf h
  | _ => rfl
theorem mvB_id {f : Nat → Nat} {m : Nat} (hf : ∀ i, i < m → f i = i) {b : Blk} (h : b.okB m = true) : b.mvB f = b := by
  cases b with
  | cells e cs => exact congrArg (Blk.cells e) (map_id' (fun v hv => mv_id hf hv) h)
  | _ => rfl
theorem hpOf_id {f : Nat → Nat} {m : Nat} (hf : ∀ i, i < m → f i = i) : ∀ {l : List Blk}, l.all (Blk.okB m) = true → (hpOf l).map (Blk.mv f) = hpOf l
  | [], _ => rfl
  | b :: l, h => by
    rw [List.all_cons, Bool.and_eq_true] at h
    have := hpOf_id hf h.2
    unfold hpOf at this ⊢
    rw [List.map_cons, List.map_cons, this]
    exact congrArg (· :: _) (congrArg some (mvB_id hf h.1))
theorem iot_range {n H : Nat} : ∀ i, i < n → iot (List.range n) H i = i := fun i hi => by
  unfold iot
  rw [List.getElem?_range hi]
theorem setAll_pre : ∀ (xs ys : List (Option Blk)) (pre rest : Heap), ys.length = xs.length → setAll (pre ++ (xs ++ rest)) (List.range' pre.length xs.length) ys = pre ++ (ys ++ rest)
  | [], [], pre, rest, _ => by simp [setAll]
  | x :: xs, y :: ys, pre, rest, h => by
    rw [List.length_cons, List.range'_succ, setAll]
    have h1 : (pre ++ (x :: xs ++ rest)).set pre.length y = (pre ++ [y]) ++ (xs ++ rest) := by simp
    have h2 := setAll_pre xs ys (pre ++ [y]) rest (by simpa using h)
    rw [h1]
    rw [List.length_append] at h2
    rw [show pre.length + 1 = pre.length + [y].length from rfl, h2]
    simp
  | [], _ :: _, _, _, h => by simp at h
  | _ :: _, [], _, _, h => by simp at h
theorem map_hget_pre (xs rest : Heap) : (List.range xs.length).map (hget (xs ++ rest)) = xs := by
  apply List.ext_getElem (by simp)
  intro i h1 h2
  simp only [List.getElem_map, List.getElem_range]
  unfold hget
  rw [List.getElem?_append_left h2, List.getElem?_eq_getElem h2]
  rfl
theorem args_id {f : Nat → Nat} {m : Nat} (hf : ∀ i, i < m → f i = i) {l : List V} (h : l.all (V.under m) = true) : l.map (V.mv f) = l := map_id' (fun _ hv => mv_id hf hv) h
variable {P : Program} {g : FuncId}
theorem Eff.here {args : List V} {h0 h1 : List Blk} {v : V} (e : Eff P g args h0 h1 v) (hl : h1.length = h0.length) (rest : Heap) {h : Heap} {K : V → Heap → Prop} (hh : h = hpOf h0 ++ rest) (hK : K v (hpOf h1 ++ rest)) : Sem P g args h K := by
  subst hh
  have hid : ∀ i, i < h0.length → iot (List.range h0.length) (hpOf h0 ++ rest).length i = i := iot_range
  refine e.call (List.range h0.length) _ rfl (args_id hid e.args).symm List.nodup_range ?_ ?_ ?_
  · rw [List.all_eq_true]
    intro i hi
    rw [Nat.blt_eq, List.length_append, hpOf_len]
    have := List.mem_range.1 hi
    omega
  · rw [hpOf_id hid e.ok0]
    have := map_hget_pre (hpOf h0) rest
    rwa [hpOf_len] at this
  · have hb := hpOf_id (f := iot (List.range h0.length) (hpOf h0 ++ rest).length) (m := h1.length) (by rw [hl]; exact hid) e.ok1
    rw [hb, mv_id (m := h1.length) (by rw [hl]; exact hid) e.res]
    have h2 := setAll_pre (hpOf h0) (hpOf h1) [] rest (by rw [hpOf_len, hpOf_len, hl])
    rw [List.nil_append, List.nil_append, hpOf_len] at h2
    rw [List.range_eq_range']
    rw [show ([] : Heap).length = 0 from rfl] at h2
    rw [h2]
    exact hK
theorem Eff.hereR {args : List V} {h0 : List Blk} {v : V} (e : Eff P g args h0 h0 v) (ι : List Nat) (rest : Heap) {h : Heap} (nid : Nat) (hnid : h.length = nid) (hh : h = hpOf h0 ++ rest) (hι : List.range h0.length = ι) : CallT (CallR P g) args h nid ⟨v, [], ι, 0, none⟩ := by
  subst hh hι
  have hid : ∀ i, i < h0.length → iot (List.range h0.length) nid i = i := iot_range
  have := e.callR (h := hpOf h0 ++ rest) (List.range h0.length) nid hnid (args_id hid e.args).symm List.nodup_range (by
    rw [List.all_eq_true]
    intro i hi
    rw [Nat.blt_eq, ← hnid, List.length_append, hpOf_len]
    have := List.mem_range.1 hi
    omega) (by
    rw [hpOf_id hid e.ok0]
    have := map_hget_pre (hpOf h0) rest
    rwa [hpOf_len] at this)
  rwa [mv_id (m := h0.length) hid e.res] at this
end Go.Cx
