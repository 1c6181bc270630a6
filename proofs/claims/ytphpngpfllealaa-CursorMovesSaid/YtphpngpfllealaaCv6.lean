/- A calculus for calls of the program: canonical values and heaps, and what each operation, loop and call does to them; no condition on the program. -/
import Derived.Test.YtphpngpfllealaaCv5
namespace Go.Cv
open Go.RowKit

def unV (op : UnOp) (x : V) : Option V :=
  match op, x with
  | .not, .bool b => some (.bool (!b))
  | .neg, .int k n => some (.int k (k.wrap (0 - n)))
  | .xor, .int k n => some (.int k (k.wrap (BitVec.ofInt k.bits (if k.signed then -1 else k.max) ^^^ BitVec.ofInt k.bits n).toNat))
  | _, _ => none

def convV (T : Nat → Option TI) (s d : Nat) (x : V) : Option V :=
  match T s, T d with
  | some _, some ti =>
    match ti.k, x with
    | .int k, .int _ n => some (.int k (k.wrap n))
    | .str, .str s => some (.str s)
    | _, _ => none
  | _, _ => none

/-- The place of a field: its offset, if it has a size. -/
def fieldV (T : Nat → Option TI) (s f : Nat) : Option (Nat × Nat) :=
  match T s with
  | some ti =>
    match ti.k with
    | .struct fs =>
      match fs[f]? with
      | some (o, ft) => (match T ft with | some fi => cond (fi.size == 0) none (some (o, ft)) | none => none)
      | none => none
    | _ => none
  | none => none

def minV : V → List V → Option V
  | x, [] => some x
  | .int k a, .int _ b :: r => minV (.int k (if b < a then b else a)) r
  | _, _ => none
def maxV : V → List V → Option V
  | x, [] => some x
  | .int k a, .int _ b :: r => maxV (.int k (if b > a then b else a)) r
  | _, _ => none

def lenV (T : Nat → Option TI) (t : Nat) (x : V) : Option V :=
  match T t with
  | some ti =>
    match ti.k, x with
    | .slice _, .psl _ xs _ => some (.int .i64 xs.length)
    | .slice _, .nils => some (.int .i64 0)
    | .slice _, .lsl _ _ _ n _ => some (.int .i64 n)
    | .str, .str s => some (.int .i64 s.size)
    | .arr n _, _ => some (.int .i64 n)
    | _, _ => none
  | none => none

def builtinV (T : Nat → Option TI) (b : Builtin) (ts : List Nat) (xs : List V) : Option V :=
  match b, ts, xs with
  | .len, t :: _, x :: _ => lenV T t x
  | .min, _, .int k a :: r => minV (.int k a) r
  | .max, _, .int k a :: r => maxV (.int k a) r
  | _, _, _ => none

def pureOp (T : Nat → Option TI) (ev : Operand → V) : Op → Option V
  | .move x => some (ev x)
  | .assign x => some (ev x)
  | .pick c a b => (match ev c with | .bool t => some (cond t (ev a) (ev b)) | _ => none)
  | .binOp op t x y _ => binV T op t (ev x) (ev y)
  | .unOp op _ x => unV op (ev x)
  | .convert s d x => convV T s d (ev x)
  | .makeFunc fn first caps => some (.fn fn (first.toList.map ev) (caps.toList.map ev))
  | .nilCheck x => (match ev x with | .ptr i o => some (.ptr i o) | .iptr cs => some (.iptr cs) | .fn (.func f) a b => some (.fn (.func f) a b) | _ => none)
  | .fieldAddr s x f =>
    (match fieldV T s f, ev x with
    | some (o, _), .ptr i q => some (.ptr i (q + o))
    | some (o, _), .iptr cs => some (.iptr (cs.drop o))
    | _, _ => none)
  | .field s x f =>
    (match fieldV T s f, ev x with
    | some (o, ft), .agg cs => partV T ft cs o
    | _, _ => none)
  | .extract x i => (match ev x with | .tup vs => vs[i]? | _ => none)
  | .call c => (match c.callee with | .builtin b => builtinV T b c.argTypes.toList (c.args.toList.map ev) | _ => none)
  | _ => none

section
variable {P : Program} {T : Nat → Option TI} (hT : TOk P T) {φ : Phi} {μ : Mu}
include hT

theorem fieldV_ok {s f o ft : Nat} (h : fieldV T s f = some (o, ft)) : ∃ (fs : Array Field) (g : Field) (i : TypeInfo), P.underlying s = some (.struct fs) ∧ fs[f]? = some g ∧ g.offset = o ∧ g.type = ft ∧ P.info? ft = some i ∧ i.size ≠ 0 := by
  unfold fieldV at h
  split at h
  · rename_i ti hti
    obtain ⟨i, d, z, k⟩ := hT s ti hti
    split at h
    · rename_i fs hk
      obtain ⟨gs, rfl, hgs⟩ := kind_struct (show kindOk (.struct fs) d = true from hk ▸ k.kind)
      split at h
      · rename_i o' ft' hf
        split at h
        · rename_i fi hfi
          obtain ⟨j, dj, zj, kj⟩ := hT ft' fi hfi
          cases hz : (fi.size == 0) with
          | true => rw [hz] at h; cases h
          | false =>
            rw [hz] at h
            simp only [cond_false, Option.some.injEq, Prod.mk.injEq] at h
            obtain ⟨rfl, rfl⟩ := h
            rw [← hgs, List.getElem?_map] at hf
            cases hg : gs.toList[f]? with
            | none => rw [hg] at hf; cases hf
            | some g =>
              rw [hg] at hf
              simp only [Option.map_some, Option.some.injEq, Prod.mk.injEq] at hf
              refine ⟨gs, g, j, k.und, by simpa using hg, hf.1, hf.2, kj.info, ?_⟩
              rw [kj.size]
              simpa using hz
        · cases h
      · cases h
    · cases h
  · cases h

theorem lenV_ok {ts : Array Nat} {xs : Array Value} {t ty : Nat} {x v : V} {c : Value} (ht : ts[0]? = some t) (hx : xs[0]? = some c) (h : lenV T t x = some v) (hr : Rv φ μ x c) (w : World) :
    ∃ cv, (Builtin.len_ ts ty xs).run P w = .ok cv w ∧ Rv φ μ v cv := by
  unfold lenV at h
  split at h
  · rename_i ti hti
    obtain ⟨i, d, z, k⟩ := hT t ti hti
    unfold Builtin.len_
    simp only [ht, hx]
    split at h
    · rename_i e _ _ _ hk
      simp only [Option.some.injEq] at h; subst h
      have hd := kind_slice (show kindOk (.slice e) d = true from hk ▸ k.kind)
      subst hd
      cases hr with
      | psl0 => exact ⟨_, by simp [run_underlying k.und]; rfl, .int _ _ _⟩
      | psl => exact ⟨_, by simp [run_underlying k.und]; rfl, .int _ _ _⟩
    · rename_i e hk
      simp only [Option.some.injEq] at h; subst h
      have hd := kind_slice (show kindOk (.slice e) d = true from hk ▸ k.kind)
      subst hd
      cases hr
      exact ⟨_, by simp [run_underlying k.und]; rfl, .int _ _ _⟩
    · rename_i e _ _ _ n _ hk
      simp only [Option.some.injEq] at h; subst h
      have hd := kind_slice (show kindOk (.slice e) d = true from hk ▸ k.kind)
      subst hd
      cases hr
      exact ⟨_, by simp [run_underlying k.und]; rfl, .int _ _ _⟩
    · rename_i s hk
      simp only [Option.some.injEq] at h; subst h
      have hd := kind_str (show kindOk .str d = true from hk ▸ k.kind)
      subst hd
      cases hr
      exact ⟨_, by simp [run_underlying k.und]; rfl, .int _ _ _⟩
    · rename_i n e hk
      simp only [Option.some.injEq] at h; subst h
      have hd := kind_arr (show kindOk (.arr n e) d = true from hk ▸ k.kind)
      subst hd
      exact ⟨_, by simp [run_underlying k.und]; rfl, .int _ _ _⟩
    · cases h
  · cases h
end

theorem minV_ok {P : Program} {φ : Phi} {μ : Mu} (w : World) : ∀ (r : List V) (cs : List Value) (x v : V) (c : Value), minV x r = some v → Rv φ μ x c → r.length = cs.length → (∀ j, j < r.length → Rv φ μ (r.getD j .undef) (cs.getD j Go.undef)) → ∃ cv, (cs.foldlM Builtin.min2 c).run P w = .ok cv w ∧ Rv φ μ v cv
  | [], [], x, v, c, h, hx, _, _ => by
    simp only [minV, Option.some.injEq] at h; subst h
    exact ⟨c, rfl, hx⟩
  | y :: r, d :: cs, x, v, c, h, hx, hl, hr => by
    have hy := hr 0 (by simp)
    simp only [List.getD_cons_zero] at hy
    unfold minV at h
    split at h
    · rename_i he; cases he
    · rename_i k a k' b r' he
      simp only [List.cons.injEq] at he
      obtain ⟨rfl, rfl⟩ := he
      cases hx; cases hy
      obtain ⟨cv, h1, h2⟩ := minV_ok w r cs _ v (.int k (if b < a then b else a)) h (.int _ _ _) (by simpa using hl) (fun j hj => by have := hr (j + 1) (by simp; omega); simpa using this)
      refine ⟨cv, ?_, h2⟩
      simp only [List.foldlM_cons, Builtin.min2, Sem.run_bind, Sem.run_pure, Result.andThen_ok]
      exact h1
    · cases h

theorem maxV_ok {P : Program} {φ : Phi} {μ : Mu} (w : World) : ∀ (r : List V) (cs : List Value) (x v : V) (c : Value), maxV x r = some v → Rv φ μ x c → r.length = cs.length → (∀ j, j < r.length → Rv φ μ (r.getD j .undef) (cs.getD j Go.undef)) → ∃ cv, (cs.foldlM Builtin.max2 c).run P w = .ok cv w ∧ Rv φ μ v cv
  | [], [], x, v, c, h, hx, _, _ => by
    simp only [maxV, Option.some.injEq] at h; subst h
    exact ⟨c, rfl, hx⟩
  | y :: r, d :: cs, x, v, c, h, hx, hl, hr => by
    have hy := hr 0 (by simp)
    simp only [List.getD_cons_zero] at hy
    unfold maxV at h
    split at h
    · rename_i he; cases he
    · rename_i k a k' b r' he
      simp only [List.cons.injEq] at he
      obtain ⟨rfl, rfl⟩ := he
      cases hx; cases hy
      obtain ⟨cv, h1, h2⟩ := maxV_ok w r cs _ v (.int k (if b > a then b else a)) h (.int _ _ _) (by simpa using hl) (fun j hj => by have := hr (j + 1) (by simp; omega); simpa using this)
      refine ⟨cv, ?_, h2⟩
      simp only [List.foldlM_cons, Builtin.max2, Sem.run_bind, Sem.run_pure, Result.andThen_ok]
      exact h1
    · cases h

theorem evL {φ : Phi} {μ : Mu} {ev : Operand → V} {ρ : Operand → Value} (he : ∀ x, Rv φ μ (ev x) (ρ x)) (xs : Array Operand) : (xs.toList.map ev).length = (xs.map ρ).size ∧ ∀ j, j < (xs.toList.map ev).length → Rv φ μ ((xs.toList.map ev).getD j .undef) ((xs.map ρ).getD j Go.undef) := by
  refine ⟨by simp, fun j hj => ?_⟩
  simp at hj
  have e1 : (xs.toList.map ev).getD j .undef = ev xs[j] := by simp [hj]
  have e2 : (xs.map ρ).getD j Go.undef = ρ xs[j] := by simp [hj]
  rw [e1, e2]; exact he _

theorem pureOp_ok {P : Program} {T : Nat → Option TI} (hT : TOk P T) {φ : Phi} {μ : Mu} {ev : Operand → V} {ρ : Operand → Value} (he : ∀ x, Rv φ μ (ev x) (ρ x)) (o : Oper) (w : World) {v : V} (h : pureOp T ev o.op = some v) :
    ∃ c, (execOp ρ o).run P w = .ok (.value c) w ∧ Rv φ μ v c := by
  obtain ⟨dst, op, type, pos, after, guard⟩ := o
  cases op <;> simp only [pureOp, reduceCtorEq] at h
  case move x => simp only [Option.some.injEq] at h; subst h; exact ⟨_, rfl, he x⟩
  case assign x => simp only [Option.some.injEq] at h; subst h; exact ⟨_, rfl, he x⟩
  case pick c a b =>
    split at h
    · rename_i t ht
      have hc := he c
      rw [ht] at hc
      generalize hcc : ρ c = cc at hc
      cases hc
      simp only [Option.some.injEq] at h; subst h
      refine ⟨if t then ρ a else ρ b, ?_, ?_⟩
      · simp [execOp, hcc, asBool]
      · cases t
        · exact he b
        · exact he a
    · cases h
  case binOp op t x y ty => exact binV_ok hT rfl h (he x) (he y)
  case unOp op t x =>
    have hx := he x
    generalize ev x = vx at h hx
    generalize hcx : ρ x = cx at hx
    unfold unV at h
    split at h <;> first | (cases h; done) | skip
    all_goals
      simp only [Option.some.injEq] at h; subst h
      cases hx
      exact ⟨_, by simp only [execOp, hcx]; rfl, by constructor⟩
  case convert s d x =>
    have hx := he x
    generalize ev x = vx at h hx
    generalize hcx : ρ x = cx at hx
    unfold convV at h
    split at h
    · rename_i si ti hs ht
      obtain ⟨i1, d1, z1, k1⟩ := hT _ _ hs
      obtain ⟨i2, d2, z2, k2⟩ := hT _ _ ht
      split at h
      · rename_i k k' n hk
        simp only [Option.some.injEq] at h; subst h
        have hd := kind_int (show kindOk (.int k) d2 = true from hk ▸ k2.kind)
        subst hd
        cases hx
        refine ⟨_, ?_, .int _ _ _⟩
        simp only [execOp, hcx, convert, Sem.run_bind, run_underlying k1.und, run_underlying k2.und, Result.andThen_ok]
        cases d1 <;> rfl
      · rename_i s hk
        simp only [Option.some.injEq] at h; subst h
        have hd := kind_str (show kindOk .str d2 = true from hk ▸ k2.kind)
        subst hd
        cases hx
        refine ⟨.string s, ?_, .str _ _⟩
        simp only [execOp, hcx, convert, Sem.run_bind, run_underlying k1.und, run_underlying k2.und, Result.andThen_ok]
        cases d1 <;> rfl
      · cases h
    · cases h
  case makeFunc fn first caps =>
    simp only [Option.some.injEq] at h; subst h
    exact ⟨_, rfl, .fn _ _ _ _ _ _ (evL he first).1 (evL he caps).1 (evL he first).2 (evL he caps).2⟩
  case nilCheck x =>
    have hx := he x
    generalize ev x = vx at h hx
    generalize hcx : ρ x = cx at hx
    split at h
    · simp only [Option.some.injEq] at h; subst h
      cases hx; rename_i b hb
      exact ⟨_, by simp only [execOp, hcx]; rfl, .ptr _ _ _ _ hb⟩
    · simp only [Option.some.injEq] at h; subst h
      cases hx; rename_i b off c h1 h2
      exact ⟨_, by simp only [execOp, hcx]; rfl, .iptr _ _ _ _ c h1 h2⟩
    · simp only [Option.some.injEq] at h; subst h
      cases hx with
      | fn _ _ _ _ cf cc l1 l2 h1 h2 => exact ⟨_, by simp only [execOp, hcx]; rfl, .fn _ _ _ _ _ _ l1 l2 h1 h2⟩
    · cases h
  case fieldAddr s x f =>
    have hx := he x
    generalize ev x = vx at h hx
    generalize hcx : ρ x = cx at hx
    have key : ∀ (o ft b q : Nat), fieldV T s f = some (o, ft) → (execOp ρ ⟨dst, .fieldAddr s x f, type, pos, after, guard⟩).run P w = (execOp ρ ⟨dst, .fieldAddr s x f, type, pos, after, guard⟩).run P w → cx = .pointer (some ⟨b, q, none⟩) →
        (execOp ρ ⟨dst, .fieldAddr s x f, type, pos, after, guard⟩).run P w = .ok (.value (.pointer (some ⟨b, q + o, none⟩))) w := fun o ft b q hf _ hc => by
      obtain ⟨fs, g, i, h1, h2, h3, h4, h5, h6⟩ := fieldV_ok hT hf
      subst h3; subst h4
      simp only [execOp, hcx, hc, Instr.fieldAt, Instr.sureAddr, Sem.run_bind, run_underlying h1, Result.andThen_ok, h2, Sem.run_pure, fieldPlace, run_sizeOf h5, h6, if_false]
      simp only [Addr.add]
      split <;> simp_all
    split at h
    · rename_i o ft i q hf
      simp only [Option.some.injEq] at h; subst h
      cases hx; rename_i b hb
      exact ⟨_, key o ft b q hf rfl rfl, .ptr _ _ _ _ hb⟩
    · rename_i o ft cs hf
      simp only [Option.some.injEq] at h; subst h
      cases hx; rename_i b off c h1 h2
      refine ⟨_, key o ft b off hf rfl rfl, .iptr _ _ _ _ (fun j => c (o + j)) (fun j hj => ?_) (fun j hj => ?_)⟩
      · simp at hj; have := h1 (o + j) (by omega); rwa [← Nat.add_assoc] at this
      · simp at hj
        have := h2 (o + j) (by omega)
        have e : (cs.drop o).getD j .undef = cs.getD (o + j) .undef := by simp [List.getElem?_drop]
        rw [e]; exact this
    · cases h
  case field s x f =>
    have hx := he x
    generalize ev x = vx at h hx
    generalize hcx : ρ x = cx at hx
    split at h
    · rename_i o ft cs hf
      obtain ⟨fs, g, i, h1, h2, h3, h4, h5, h6⟩ := fieldV_ok hT hf
      subst h3; subst h4
      obtain ⟨c, rfl, hA⟩ := hx.agg_inv
      obtain ⟨cv, h7, h8⟩ := part_ok hT hA h w
      refine ⟨cv, ?_, h8⟩
      simp only [execOp, hcx, Instr.field, Sem.run_bind, run_underlying h1, Result.andThen_ok, h2, asAgg, Sem.run_pure, h7]
    · cases h
  case extract x i =>
    have hx := he x
    generalize ev x = vx at h hx
    generalize hcx : ρ x = cx at hx
    split at h
    · obtain ⟨c, rfl, hA⟩ := hx.tup_inv
      obtain ⟨cv, h1, h2⟩ := hA.get h
      exact ⟨cv, by simp only [execOp, hcx, Instr.extract, h1, Sem.run_bind, Sem.run_pure, Result.andThen_ok], h2⟩
    · cases h
  case call c =>
    obtain ⟨callee, args, ts⟩ := c
    cases callee <;> simp only [reduceCtorEq] at h
    rename_i b
    obtain ⟨hl, hr⟩ := evL he args
    unfold builtinV at h
    have hexec : ∀ cv, (∀ cs, (builtin b ts type cs (args.map ρ)).run P w = .ok (.value cv) w) → (execOp ρ ⟨dst, .call ⟨.builtin b, args, ts⟩, type, pos, after, guard⟩).run P w = .ok (.value cv) w := fun cv hb => by
      simp only [execOp, resolve, invoke, Sem.run_bind, Sem.run_pure, Result.andThen_ok]
      exact hb _
    have hargs : (args.map ρ).toList.length = (args.toList.map ev).length := by simp
    split at h
    · rename_i t tr x xr ht hx
      have ht0 : ts[0]? = some t := by rw [← Array.getElem?_toList, ht]; rfl
      have hpos : 0 < (args.map ρ).size := by rw [← hl, hx]; simp
      have hx0 : (args.map ρ)[0]? = some (args.map ρ)[0] := Array.getElem?_eq_getElem hpos
      have hrv := hr 0 (by rw [hx]; simp)
      rw [hx] at hrv
      simp only [List.getD_cons_zero] at hrv
      have e2 : (args.map ρ).getD 0 Go.undef = (args.map ρ)[0] := by simp only [Array.getD, hpos, dif_pos]; rfl
      rw [e2] at hrv
      obtain ⟨cv, h1, h2⟩ := lenV_ok hT (ty := type) ht0 hx0 h hrv w
      exact ⟨cv, hexec cv (fun cs => by simp only [builtin, Sem.run_bind, h1, Result.andThen_ok, Sem.run_pure]), h2⟩
    · rename_i k a r hx
      have hcl : ∃ c cs, (args.map ρ).toList = c :: cs := by
        cases hq : (args.map ρ).toList with
        | nil => rw [hx, hq] at hargs; simp at hargs
        | cons c cs => exact ⟨c, cs, rfl⟩
      obtain ⟨c, cs, hcs⟩ := hcl
      have eg : ∀ j, (args.map ρ).getD j Go.undef = (c :: cs).getD j Go.undef := fun j => by rw [← hcs]; simp
      have hlen : r.length = cs.length := by rw [hx, hcs] at hargs; simp at hargs; omega
      have h0 := hr 0 (by rw [hx]; simp)
      rw [hx, eg] at h0
      simp only [List.getD_cons_zero] at h0
      obtain ⟨cv, h1, h2⟩ := minV_ok (P := P) w r cs _ v c h h0 hlen (fun j hj => by
        have := hr (j + 1) (by rw [hx]; simp; omega)
        rw [hx, eg] at this
        simpa using this)
      refine ⟨cv, hexec cv (fun _ => ?_), h2⟩
      simp only [builtin, Builtin.min_, Sem.run_bind, hcs, h1, Result.andThen_ok, Sem.run_pure]
    · rename_i k a r hx
      have hcl : ∃ c cs, (args.map ρ).toList = c :: cs := by
        cases hq : (args.map ρ).toList with
        | nil => rw [hx, hq] at hargs; simp at hargs
        | cons c cs => exact ⟨c, cs, rfl⟩
      obtain ⟨c, cs, hcs⟩ := hcl
      have eg : ∀ j, (args.map ρ).getD j Go.undef = (c :: cs).getD j Go.undef := fun j => by rw [← hcs]; simp
      have hlen : r.length = cs.length := by rw [hx, hcs] at hargs; simp at hargs; omega
      have h0 := hr 0 (by rw [hx]; simp)
      rw [hx, eg] at h0
      simp only [List.getD_cons_zero] at h0
      obtain ⟨cv, h1, h2⟩ := maxV_ok (P := P) w r cs _ v c h h0 hlen (fun j hj => by
        have := hr (j + 1) (by rw [hx]; simp; omega)
        rw [hx, eg] at this
        simpa using this)
      refine ⟨cv, hexec cv (fun _ => ?_), h2⟩
      simp only [builtin, Builtin.max_, Sem.run_bind, hcs, h1, Result.andThen_ok, Sem.run_pure]
    · cases h

end Go.Cv
