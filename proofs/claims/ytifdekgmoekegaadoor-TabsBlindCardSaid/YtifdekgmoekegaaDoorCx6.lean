/- A calculus for calls of the program: canonical values and heaps, and what each operation, loop and call does to them; no condition on the program. -/
import Derived.Test.YtifdekgmoekegaaDoorCx5
namespace Go.Cx
open Go.RowKit

def unV (op : UnOp) (x : V) : Option V :=
  match op, x with
  | .not, .bool b => some (.bool (!b))
  | .neg, .int k n => some (.int k (k.wrap (0 - n)))
  | .xor, .int k n => some (.int k (k.wrap (BitVec.ofInt k.bits (if k.signed then -1 else k.max) ^^^ BitVec.ofInt k.bits n).toNat))
  | _, _ => none

def convV (T : Nat → Option TI) (s d : Nat) (x : V) : Option V :=
  match T s, T d with
  | some _, some ti =>
    match ti.k, x with
    | .int k, .int _ n => some (.int k (k.wrap n))
    | .str, .str s => some (.str s)
    | _, _ => none
  | _, _ => none

/-- The place of a field: its offset, if it has a size. -/
def fieldV (T : Nat → Option TI) (s f : Nat) : Option (Nat × Nat) :=
  match T s with
  | some ti =>
    match ti.k with
    | .struct fs =>
      match fs[f]? with
      | some (o, ft) => (match T ft with | some fi => cond (fi.size == 0) none (some (o, ft)) | none => none)
      | none => none
    | _ => none
  | none => none

def minV : V → List V → Option V
  | x, [] => some x
  | .int k a, .int _ b :: r => minV (.int k (if b < a then b else a)) r
  | _, _ => none
def maxV : V → List V → Option V
  | x, [] => some x
  | .int k a, .int _ b :: r => maxV (.int k (if b > a then b else a)) r
  | _, _ => none

def lenV (T : Nat → Option TI) (t : Nat) (x : V) : Option V :=
  match T t with
  | some ti =>
    match ti.k, x with
    | .slice _, .psl _ xs _ => some (.int .i64 xs.length)
    | .slice _, .nils => some (.int .i64 0)
    | .slice _, .lsl _ _ _ n _ => some (.int .i64 n)
    | .slice _, .gsl _ _ _ n _ _ _ => some (.int .i64 n)
    | .str, .str s => some (.int .i64 s.size)
    | .arr n _, _ => some (.int .i64 n)
    | .map .., .nilm => some (.int .i64 0)
    | _, _ => none
  | none => none

def capV (T : Nat → Option TI) (t : Nat) (x : V) : Option V :=
  match T t with
  | some ti =>
    match ti.k, x with
    | .slice _, .psl _ xs .exact => some (.int .i64 xs.length)
    | .slice _, .nils => some (.int .i64 0)
    | .slice _, .lsl _ _ _ _ c => some (.int .i64 c)
    | .slice _, .gsl _ _ _ _ lo true _ => some (.int .i64 lo)
    | _, _ => none
  | none => none

def dataV (x : V) : Option V :=
  match x with
  | .nils => some .nilp
  | .lsl id _ o _ c => cond (Nat.blt 0 c) (some (.ptr id o)) none
  | .gsl id _ o _ lo _ ver => cond (Nat.blt 0 lo) (some (.gptr id o ver)) none
  | _ => none

def builtinV (T : Nat → Option TI) (b : Builtin) (ts : List Nat) (xs : List V) : Option V :=
  match b, ts, xs with
  | .len, t :: _, x :: _ => lenV T t x
  | .cap, t :: _, x :: _ => capV T t x
  | .min, _, .int k a :: r => minV (.int k a) r
  | .max, _, .int k a :: r => maxV (.int k a) r
  | .unsafeSliceData, _, [x] => dataV x
  | _, _, _ => none

/-! Parts at places that need not be known. -/
def partT (T : Nat → Option TI) (t : Nat) (cs : List V) (o : Nat) : Option (Bool × V) :=
  match T t with
  | some ti => some (cond (isAggK ti.k) (true, .agg ((cs.drop o).take ti.size)) (Nat.blt o cs.length, cs.getD o .undef))
  | none => none

def bndV (d : Int) : Option V → Option Int
  | none => some d
  | some (.int _ n) => some n
  | _ => none

def sliceO (T : Nat → Option TI) (t : Nat) (x : V) (lo hi mx : Option V) : Option (Bool × V) :=
  match T t with
  | some ti =>
    (match ti.k, x with
    | .str, .str s =>
      (match bndV 0 lo, bndV s.size hi, mx with
      | some l, some m, none => some (decide (0 ≤ l) && decide (l ≤ m) && decide (m ≤ s.size), .str (s.extract l.toNat m.toNat))
      | _, _, _ => none)
    | .slice e, .nils =>
      (match T e, bndV 0 lo, bndV 0 hi, bndV 0 mx with
      | some _, some l, some m, some q => cond (mx.isSome && !hi.isSome) none (some (decide (l = 0) && decide (m = 0) && decide (q = 0), .nils))
      | _, _, _, _ => none)
    | .slice e, .psl sz xs tk =>
      (match T e, bndV 0 lo, bndV xs.length hi, bndV xs.length mx with
      | some ei, some l, some m, some q => cond (mx.isSome && !hi.isSome || !(sz == ei.size)) none
          (some (decide (0 ≤ l) && decide (l ≤ m) && decide (m ≤ q) && decide (q ≤ xs.length), .psl sz ((xs.drop l.toNat).take (m.toNat - l.toNat)) .any))
      | _, _, _, _ => none)
    | .slice e, .lsl id sz o n cap =>
      (match T e, bndV 0 lo, bndV n hi, bndV cap mx with
      | some ei, some l, some m, some q => cond (mx.isSome && !hi.isSome || !(sz == ei.size)) none
          (some (decide (0 ≤ l) && decide (l ≤ m) && decide (m ≤ q) && decide (q ≤ cap), .lsl id sz (cond (Nat.beq q.toNat l.toNat) o (o + l.toNat * sz)) (m.toNat - l.toNat) (q.toNat - l.toNat)))
      | _, _, _, _ => none)
    | .slice e, .gsl id sz o n clo ex ver =>
      (match T e, bndV 0 lo, bndV n hi, mx with
      | some ei, some l, some m, none => cond (!(sz == ei.size)) none
          (some (decide (0 ≤ l) && decide (l ≤ m) && decide (m ≤ clo),
            cond (Nat.blt l.toNat clo || Nat.beq l.toNat 0) (.gsl id sz (o + l.toNat * sz) (m.toNat - l.toNat) (clo - l.toNat) ex ver) (cond ex (.gsl id sz o 0 0 true ver) (.psl sz [] .any))))
      | some ei, some l, some m, some (.int _ q) => cond (!hi.isSome || !(sz == ei.size)) none
          (some (decide (0 ≤ l) && decide (l ≤ m) && decide (m ≤ q) && decide (q ≤ clo), .gsl id sz (cond (Nat.beq q.toNat l.toNat) o (o + l.toNat * sz)) (m.toNat - l.toNat) (q.toNat - l.toNat) true ver))
      | _, _, _, _ => none)
    | .arr n e, .ptr id o =>
      (match T e, bndV 0 lo, bndV n hi, bndV n mx with
      | some ei, some l, some m, some q => cond (mx.isSome && !hi.isSome) none
          (some (decide (0 ≤ l) && decide (l ≤ m) && decide (m ≤ q) && decide (q ≤ n), .lsl id ei.size (cond (Nat.beq q.toNat l.toNat) o (o + l.toNat * ei.size)) (m.toNat - l.toNat) (q.toNat - l.toNat)))
      | _, _, _, _ => none)
    | _, _ => none)
  | none => none

def indexO (T : Nat → Option TI) (t : Nat) (x i : V) : Option (Bool × V) :=
  match T t with
  | some ti =>
    (match ti.k, x, i with
    | .arr n e, .agg cs, .int _ m =>
      (match T e with
      | some ei => (match partT T e cs (m.toNat * ei.size) with | some (b, v) => some (decide (0 ≤ m) && decide (m < n) && b, v) | none => none)
      | none => none)
    | .str, .str s, .int _ m => some (decide (0 ≤ m) && decide (m < s.size), .int .u8 (s.data.toList.getD m.toNat 0).toNat)
    | _, _, _ => none)
  | none => none

def indexAddrO (T : Nat → Option TI) (t : Nat) (x i : V) : Option (Bool × V) :=
  match T t with
  | some ti =>
    (match ti.k, x, i with
    | .slice e, .psl sz xs _, .int _ n => (match T e with | some ei => cond (sz == ei.size) (some (decide (0 ≤ n) && decide (n < xs.length), .iptr (xs.getD n.toNat []))) none | none => none)
    | .slice e, .lsl id sz o m _, .int _ n => (match T e with | some ei => cond (sz == ei.size) (some (decide (0 ≤ n) && decide (n < m), .ptr id (o + n.toNat * sz))) none | none => none)
    | .slice e, .gsl id sz o m _ _ ver, .int _ n => (match T e with | some ei => cond (sz == ei.size) (some (decide (0 ≤ n) && decide (n < m), .gptr id (o + n.toNat * sz) ver)) none | none => none)
    | .arr m e, .ptr id q, .int _ n => (match T e with | some ei => some (decide (0 ≤ n) && decide (n < m), .ptr id (q + n.toNat * ei.size)) | none => none)
    | .arr m e, .gptr id q ver, .int _ n => (match T e with | some ei => some (decide (0 ≤ n) && decide (n < m), .gptr id (q + n.toNat * ei.size) ver) | none => none)
    | .arr m e, .iptr cs, .int _ n => (match T e with | some ei => some (decide (0 ≤ n) && decide (n < m), .iptr (cs.drop (n.toNat * ei.size))) | none => none)
    | _, _, _ => none)
  | none => none

def pv (x : Option V) : Option (Bool × V) := match x with | some v => some (true, v) | none => none

def pureO (T : Nat → Option TI) (ev : Operand → V) : Op → Option (Bool × V)
  | .move x => some (true, ev x)
  | .assign x => some (true, ev x)
  | .pick c a b => (match ev c with | .bool t => some (true, cond t (ev a) (ev b)) | _ => none)
  | .binOp op t x y _ => binO T op t (ev x) (ev y)
  | .unOp op _ x => pv (unV op (ev x))
  | .convert s d x => pv (convV T s d (ev x))
  | .makeFunc fn first caps => some (true, .fn fn (first.toList.map ev) (caps.toList.map ev))
  | .nilCheck x => (match ev x with | .ptr i o => some (true, .ptr i o) | .gptr i o v => some (true, .gptr i o v) | .iptr cs => some (true, .iptr cs) | .fn (.func f) a b => some (true, .fn (.func f) a b) | _ => none)
  | .fieldAddr s x f =>
    (match fieldV T s f, ev x with
    | some (o, _), .ptr i q => some (true, .ptr i (q + o))
    | some (o, _), .gptr i q ver => some (true, .gptr i (q + o) ver)
    | some (o, _), .iptr cs => some (true, .iptr (cs.drop o))
    | _, _ => none)
  | .field s x f =>
    (match fieldV T s f, ev x with
    | some (o, ft), .agg cs => pv (partV T ft cs o)
    | _, _ => none)
  | .extract x i => (match ev x with | .tup vs => pv vs[i]? | _ => none)
  | .slice t x lo hi mx => sliceO T t (ev x) (lo.map ev) (hi.map ev) (mx.map ev)
  | .index t x i => indexO T t (ev x) (ev i)
  | .indexAddr t x i => indexAddrO T t (ev x) (ev i)
  | .call c => (match c.callee with | .builtin b => pv (builtinV T b c.argTypes.toList (c.args.toList.map ev)) | _ => none)
  | _ => none

section
variable {P : Program} {T : Nat → Option TI} (hT : TOk P T) {φ : Phi} {μ : Mu}
include hT

theorem fieldV_ok {s f o ft : Nat} (h : fieldV T s f = some (o, ft)) : ∃ (fs : Array Field) (g : Field) (i : TypeInfo), P.underlying s = some (.struct fs) ∧ fs[f]? = some g ∧ g.offset = o ∧ g.type = ft ∧ P.info? ft = some i ∧ i.size ≠ 0 := by
  unfold fieldV at h
  split at h
  · rename_i ti hti
    obtain ⟨i, d, z, k⟩ := hT s ti hti
    split at h
    · rename_i fs hk
      obtain ⟨gs, rfl, hgs⟩ := kind_struct (show kindOk (.struct fs) d = true from hk ▸ k.kind)
      split at h
      · rename_i o' ft' hf
        split at h
        · rename_i fi hfi
          obtain ⟨j, dj, zj, kj⟩ := hT ft' fi hfi
          cases hz : (fi.size == 0) with
          | true => rw [hz] at h; cases h
          | false =>
            rw [hz] at h
            simp only [cond_false, Option.some.injEq, Prod.mk.injEq] at h
            obtain ⟨rfl, rfl⟩ := h
            rw [← hgs, List.getElem?_map] at hf
            cases hg : gs.toList[f]? with
            | none => rw [hg] at hf; cases hf
            | some g =>
              rw [hg] at hf
              simp only [Option.map_some, Option.some.injEq, Prod.mk.injEq] at hf
              refine ⟨gs, g, j, k.und, by simpa using hg, hf.1, hf.2, kj.info, ?_⟩
              rw [kj.size]
              simpa using hz
        · cases h
      · cases h
    · cases h
  · cases h


theorem lenV_ok {ts : Array Nat} {xs : Array Value} {t ty : Nat} {x v : V} {c : Value} (ht : ts[0]? = some t) (hx : xs[0]? = some c) (h : lenV T t x = some v) (hr : Rv φ μ x c) (w : World) :
    ∃ cv, (Builtin.len_ ts ty xs).run P w = .ok cv w ∧ Rv φ μ v cv := by
  unfold lenV at h
  split at h
  · rename_i ti hti
    obtain ⟨i, d, z, k⟩ := hT t ti hti
    unfold Builtin.len_
    simp only [ht, hx]
    split at h <;> (try (cases h; done))
    all_goals simp only [Option.some.injEq] at h; subst h
    · rename_i e _ _ _ hk
      have hd := kind_slice (show kindOk (.slice e) d = true from hk ▸ k.kind)
      subst hd
      cases hr with
      | psl0 => exact ⟨_, by simp [run_underlying k.und]; rfl, .int _ _ _⟩
      | psl => exact ⟨_, by simp [run_underlying k.und]; rfl, .int _ _ _⟩
    · rename_i e hk
      have hd := kind_slice (show kindOk (.slice e) d = true from hk ▸ k.kind)
      subst hd
      cases hr
      exact ⟨_, by simp [run_underlying k.und]; rfl, .int _ _ _⟩
    · rename_i e _ _ _ n _ hk
      have hd := kind_slice (show kindOk (.slice e) d = true from hk ▸ k.kind)
      subst hd
      cases hr
      exact ⟨_, by simp [run_underlying k.und]; rfl, .int _ _ _⟩
    · rename_i e _ _ _ n _ _ _ hk
      have hd := kind_slice (show kindOk (.slice e) d = true from hk ▸ k.kind)
      subst hd
      cases hr
      exact ⟨_, by simp [run_underlying k.und]; rfl, .int _ _ _⟩
    · rename_i s hk
      have hd := kind_str (show kindOk .str d = true from hk ▸ k.kind)
      subst hd
      cases hr
      exact ⟨_, by simp [run_underlying k.und]; rfl, .int _ _ _⟩
    · rename_i n e hk
      have hd := kind_arr (show kindOk (.arr n e) d = true from hk ▸ k.kind)
      subst hd
      exact ⟨_, by simp [run_underlying k.und]; rfl, .int _ _ _⟩
    · rename_i hk
      have hd := kind_map (show kindOk (.map _ _) d = true from hk ▸ k.kind)
      subst hd
      cases hr
      exact ⟨_, by simp [run_underlying k.und]; rfl, .int _ _ _⟩
  · cases h

theorem capV_ok {ts : Array Nat} {xs : Array Value} {t ty : Nat} {x v : V} {c : Value} (ht : ts[0]? = some t) (hx : xs[0]? = some c) (h : capV T t x = some v) (hr : Rv φ μ x c) (w : World) :
    ∃ cv, (Builtin.cap_ ts ty xs).run P w = .ok cv w ∧ Rv φ μ v cv := by
  unfold capV at h
  split at h
  · rename_i ti hti
    obtain ⟨i, d, z, k⟩ := hT t ti hti
    unfold Builtin.cap_
    simp only [ht, hx]
    split at h <;> (try (cases h; done))
    all_goals simp only [Option.some.injEq] at h; subst h
    · rename_i e _ xs hk
      have hd := kind_slice (show kindOk (.slice e) d = true from hk ▸ k.kind)
      subst hd
      cases hr with
      | psl _ _ _ _ _ _ _ _ _ _ _ _ h4 =>
        have h4 : _ = xs.length := h4
        exact ⟨_, by simp [run_underlying k.und]; rfl, by rw [h4]; exact .int _ _ _⟩
    · rename_i e hk
      have hd := kind_slice (show kindOk (.slice e) d = true from hk ▸ k.kind)
      subst hd
      cases hr
      exact ⟨_, by simp [run_underlying k.und]; rfl, .int _ _ _⟩
    · rename_i e _ _ _ _ c' hk
      have hd := kind_slice (show kindOk (.slice e) d = true from hk ▸ k.kind)
      subst hd
      cases hr
      exact ⟨_, by simp [run_underlying k.und]; rfl, .int _ _ _⟩
    · rename_i e _ _ _ _ lo _ hk
      have hd := kind_slice (show kindOk (.slice e) d = true from hk ▸ k.kind)
      subst hd
      cases hr with
      | gsl _ _ _ _ _ _ _ _ _ _ _ _ _ _ _ _ h4 => exact ⟨_, by simp [run_underlying k.und]; rfl, by rw [h4 rfl]; exact .int _ _ _⟩
  · cases h
end

theorem run_data {P : Program} {ts : Array Nat} {ty : Nat} {a : Addr} {n c : Nat} (hc : c ≠ 0) (w : World) : (Builtin.unsafeSliceData_ ts ty #[.slice (some a) n c]).run P w = .ok (.pointer (some a)) w := by
  have : Builtin.unsafeSliceData_ ts ty #[.slice (some a) n c] = (do
    if c ≠ 0 then pure (.pointer (some a))
    else if (← viewAt a.block).isSome then pure (.pointer (some a))
    else pure (.pointer (some ⟨← newObj (.view a (← elemOf ty)), 0, none⟩)) : Go.Sem Value) := rfl
  rw [this, if_pos hc]
  rfl

theorem dataV_ok {P : Program} {φ : Phi} {μ : Mu} {ts : Array Nat} {ty : Nat} {x v : V} {c : Value} (h : dataV x = some v) (hr : Rv φ μ x c) (w : World) : ∃ cv, (Builtin.unsafeSliceData_ ts ty #[c]).run P w = .ok cv w ∧ Rv φ μ v cv := by
  unfold dataV at h
  split at h
  · simp only [Option.some.injEq] at h; subst h
    cases hr
    exact ⟨_, rfl, .nilp _⟩
  · rename_i id sz o n cap
    cases hc : Nat.blt 0 cap with
    | false => rw [hc] at h; cases h
    | true =>
      rw [hc] at h
      simp only [cond_true, Option.some.injEq] at h; subst h
      cases hr; rename_i b hb hle
      have : cap ≠ 0 := by simp [Nat.blt_eq] at hc; omega
      exact ⟨.pointer (some ⟨b, o, none⟩), run_data this w, .ptr _ _ _ _ hb⟩
  · rename_i id sz o n lo ex ver
    cases hc : Nat.blt 0 lo with
    | false => rw [hc] at h; cases h
    | true =>
      rw [hc] at h
      simp only [cond_true, Option.some.injEq] at h; subst h
      cases hr with
      | gsl _ _ _ _ _ _ _ _ b m cc a hb hle hn hlo hex hv =>
        have : cc ≠ 0 := by simp [Nat.blt_eq] at hc; omega
        exact ⟨.pointer (some a), run_data this w, .gptr _ _ _ _ b m _ hb hle (fun e => (hv e).1)⟩
  · cases h

theorem minV_ok {P : Program} {φ : Phi} {μ : Mu} (w : World) : ∀ (r : List V) (cs : List Value) (x v : V) (c : Value), minV x r = some v → Rv φ μ x c → r.length = cs.length → (∀ j, j < r.length → Rv φ μ (r.getD j .undef) (cs.getD j Go.undef)) → ∃ cv, (cs.foldlM Builtin.min2 c).run P w = .ok cv w ∧ Rv φ μ v cv
  | [], [], x, v, c, h, hx, _, _ => by
    simp only [minV, Option.some.injEq] at h; subst h
    exact ⟨c, rfl, hx⟩
  | y :: r, d :: cs, x, v, c, h, hx, hl, hr => by
    have hy := hr 0 (by simp)
    simp only [List.getD_cons_zero] at hy
    unfold minV at h
    split at h
    · rename_i he; cases he
    · rename_i k a k' b r' he
      simp only [List.cons.injEq] at he
      obtain ⟨rfl, rfl⟩ := he
      cases hx; cases hy
      obtain ⟨cv, h1, h2⟩ := minV_ok w r cs _ v (.int k (if b < a then b else a)) h (.int _ _ _) (by simpa using hl) (fun j hj => by have := hr (j + 1) (by simp; omega); simpa using this)
      refine ⟨cv, ?_, h2⟩
      simp only [List.foldlM_cons, Builtin.min2, Sem.run_bind, Sem.run_pure, Result.andThen_ok]
      exact h1
    · cases h

theorem maxV_ok {P : Program} {φ : Phi} {μ : Mu} (w : World) : ∀ (r : List V) (cs : List Value) (x v : V) (c : Value), maxV x r = some v → Rv φ μ x c → r.length = cs.length → (∀ j, j < r.length → Rv φ μ (r.getD j .undef) (cs.getD j Go.undef)) → ∃ cv, (cs.foldlM Builtin.max2 c).run P w = .ok cv w ∧ Rv φ μ v cv
  | [], [], x, v, c, h, hx, _, _ => by
    simp only [maxV, Option.some.injEq] at h; subst h
    exact ⟨c, rfl, hx⟩
  | y :: r, d :: cs, x, v, c, h, hx, hl, hr => by
    have hy := hr 0 (by simp)
    simp only [List.getD_cons_zero] at hy
    unfold maxV at h
    split at h
    · rename_i he; cases he
    · rename_i k a k' b r' he
      simp only [List.cons.injEq] at he
      obtain ⟨rfl, rfl⟩ := he
      cases hx; cases hy
      obtain ⟨cv, h1, h2⟩ := maxV_ok w r cs _ v (.int k (if b > a then b else a)) h (.int _ _ _) (by simpa using hl) (fun j hj => by have := hr (j + 1) (by simp; omega); simpa using this)
      refine ⟨cv, ?_, h2⟩
      simp only [List.foldlM_cons, Builtin.max2, Sem.run_bind, Sem.run_pure, Result.andThen_ok]
      exact h1
    · cases h

theorem evL {φ : Phi} {μ : Mu} {ev : Operand → V} {ρ : Operand → Value} (he : ∀ x, Rv φ μ (ev x) (ρ x)) (xs : Array Operand) : (xs.toList.map ev).length = (xs.map ρ).size ∧ ∀ j, j < (xs.toList.map ev).length → Rv φ μ ((xs.toList.map ev).getD j .undef) ((xs.map ρ).getD j Go.undef) := by
  refine ⟨by simp, fun j hj => ?_⟩
  simp at hj
  have e1 : (xs.toList.map ev).getD j .undef = ev xs[j] := by simp [hj]
  have e2 : (xs.map ρ).getD j Go.undef = ρ xs[j] := by simp [hj]
  rw [e1, e2]; exact he _



theorem partT_ok {P : Program} {T : Nat → Option TI} (hT : TOk P T) {φ : Phi} {μ : Mu} {xs : List V} {cs : Array Value} (h : RvA φ μ xs cs) {t o : Nat} {b : Bool} {v : V} (hv : partT T t xs o = some (b, v)) (hb : b = true) (w : World) :
    ∃ cv, (part t cs o).run P w = .ok cv w ∧ Rv φ μ v cv := by
  unfold partT at hv
  split at hv
  · rename_i ti hti
    refine part_ok hT h (v := v) ?_ w
    unfold partV
    rw [hti]
    simp only [Option.some.injEq] at hv ⊢
    cases hg : isAggK ti.k with
    | true => rw [hg] at hv; simp only [cond_true, Prod.mk.injEq] at hv ⊢; rw [hv.2]
    | false =>
      rw [hg] at hv
      simp only [cond_false, Prod.mk.injEq] at hv ⊢
      rw [← hv.1, Nat.blt_eq] at hb
      rw [← hv.2, List.getElem?_eq_getElem hb]
      simp [hb]
  · cases hv

/-- The bounds of a slice expression. -/
theorem run_bounds {P : Program} {φ : Phi} {μ : Mu} (w : World) {lo hi mx : Option V} {clo chi cmx : Option Value}
    (hlo : match lo, clo with | none, none => True | some a, some b => Rv φ μ a b | _, _ => False) (hhi : match hi, chi with | none, none => True | some a, some b => Rv φ μ a b | _, _ => False) (hmx : match mx, cmx with | none, none => True | some a, some b => Rv φ μ a b | _, _ => False)
    (isS : Bool) (len cap : Nat) (l m q : Int) (h1 : bndV 0 lo = some l) (h2 : bndV len hi = some m) (h3 : (mx = none ∧ q = cap) ∨ (hi.isSome = true ∧ ∃ k, mx = some (.int k q))) (b1 : 0 ≤ l) (b2 : l ≤ m) (b3 : m ≤ q) (b4 : q ≤ cap) :
    (Instr.sliceBounds isS len cap clo chi cmx).run P w = .ok (l.toNat, m.toNat, q.toNat) w := by
  have bnd : ∀ (d : Nat) (b : Option V) (cb : Option Value) (q : Int), (match b, cb with | none, none => True | some a, some b => Rv φ μ a b | _, _ => False) → bndV d b = some q →
      (cb = none ∧ q = d ∧ b = none) ∨ ∃ k, cb = some (.int k q) := fun d b cb q hb hq => by
    cases b with
    | none =>
      cases cb with
      | none => simp only [bndV, Option.some.injEq] at hq; exact .inl ⟨rfl, hq.symm, rfl⟩
      | some _ => exact hb.elim
    | some v =>
      cases cb with
      | none => exact hb.elim
      | some c =>
        simp only at hb
        cases hb <;> simp only [bndV, reduceCtorEq, Option.some.injEq] at hq
        subst hq
        exact .inr ⟨_, rfl⟩
  have a1 := bnd 0 lo clo l hlo (by simpa using h1)
  have a2 := bnd len hi chi m hhi h2
  have a3 : (cmx = none ∧ q = cap) ∨ (hi.isSome = true ∧ ∃ k, cmx = some (.int k q)) := by
    rcases h3 with ⟨rfl, e⟩ | ⟨hs, k, rfl⟩
    · cases cmx with
      | none => exact .inl ⟨rfl, e⟩
      | some _ => exact hmx.elim
    · cases cmx with
      | none => exact hmx.elim
      | some c => simp only at hmx; cases hmx; exact .inr ⟨hs, _, rfl⟩
  have hl : (0 : Int) ≤ l ∧ l ≤ (m.toNat : Int) := ⟨b1, by omega⟩
  have hm : (0 : Int) ≤ m ∧ m ≤ (q.toNat : Int) := ⟨by omega, by omega⟩
  have hmc : (0 : Int) ≤ m ∧ m ≤ (cap : Int) := ⟨by omega, by omega⟩
  have hq : (0 : Int) ≤ q ∧ q ≤ (cap : Int) := ⟨by omega, by omega⟩
  unfold Instr.sliceBounds
  rcases a3 with ⟨rfl, e3⟩ | ⟨hs, k3, rfl⟩
  · have hqc : q.toNat = cap := by omega
    rw [hqc]
    rcases a1 with ⟨rfl, e1, _⟩ | ⟨k1, rfl⟩ <;> rcases a2 with ⟨rfl, e2, _⟩ | ⟨k2, rfl⟩
    · subst e1; subst e2; simp
    · subst e1
      simp only [Instr.sliceBound, asIntOf, Sem.run_bind, Sem.run_pure, Result.andThen_ok, hmc, and_self, if_true]
      rfl
    · subst e2
      have hl' : (0 : Int) ≤ l ∧ l ≤ (len : Int) := ⟨b1, b2⟩
      simp only [Instr.sliceBound, asIntOf, Sem.run_bind, Sem.run_pure, Result.andThen_ok, hl', and_self, if_true, Option.isSome_none, Int.toNat_natCast]
    · simp only [Instr.sliceBound, asIntOf, Sem.run_bind, Sem.run_pure, Result.andThen_ok, hmc, hl, and_self, if_true, Option.isSome_none]
  · rcases a2 with ⟨_, _, rfl⟩ | ⟨k2, rfl⟩
    · cases hs
    · rcases a1 with ⟨rfl, e1, _⟩ | ⟨k1, rfl⟩
      · subst e1
        simp only [Instr.sliceBound, asIntOf, Sem.run_bind, Sem.run_pure, Result.andThen_ok, hm, hq, and_self, if_true]
        rfl
      · simp only [Instr.sliceBound, asIntOf, Sem.run_bind, Sem.run_pure, Result.andThen_ok, hm, hq, hl, and_self, if_true, Option.isSome_some]

end Go.Cx
