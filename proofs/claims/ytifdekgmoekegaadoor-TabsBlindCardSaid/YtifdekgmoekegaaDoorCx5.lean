/- A calculus for calls of the program: canonical values and heaps, and what each operation, loop and call does to them; no condition on the program. -/
import Derived.Test.YtifdekgmoekegaaDoorCx4
import Derived.LaidEqlPtr
import Derived.BigFrame
namespace Go.Cx
open Go.RowKit

/-! ### One cell, free of own blocks -/
def V.one : V → Bool
  | .undef | .agg _ | .tup _ => false
  | _ => true

theorem one_cells {φ : Phi} {μ : Mu} {v : V} {c : Value} (h : Rv φ μ v c) (ho : v.one = true) : c.cells = #[c] ∧ c.oneCell' = true := by
  cases h <;> first | (cases ho; done) | exact ⟨rfl, rfl⟩

def V.free1 : V → Bool
  | .ptr .. | .gptr .. | .lsl .. | .gsl .. | .map _ | .yld _ | .agg _ | .tup _ => false
  | .fn _ a b => a.isEmpty && b.isEmpty
  | .psl _ _ (.own _) => false
  | _ => true

def V.free : V → Bool
  | .agg cs => cs.all V.free1
  | .tup vs => vs.all fun v => match v with | .agg cs => cs.all V.free1 | v => v.free1
  | v => v.free1

theorem free1_rv {φ : Phi} {μ : Mu} {v : V} {c : Value} (h : Rv φ μ v c) (hf : v.free1 = true) (μ' : Mu) : Rv φ μ' v c := by
  cases h with
  | undef => exact .undef _ _
  | bool => exact .bool _ _
  | int => exact .int _ _ _
  | str => exact .str _ _
  | nilp => exact .nilp _
  | ptr => cases hf
  | gptr => cases hf
  | iptr _ cs b off c h1 h2 => exact .iptr _ _ _ _ c h1 h2
  | fn _ f first caps cf cc l1 l2 h1 h2 =>
    simp only [V.free1, Bool.and_eq_true, List.isEmpty_iff] at hf
    obtain ⟨rfl, rfl⟩ := hf
    exact .fn _ _ _ _ _ _ l1 l2 (fun j hj => by simp at hj) (fun j hj => by simp at hj)
  | nilfn => exact .nilfn _
  | nils => exact .nils _
  | psl0 => exact .psl0 _ _ _ _
  | psl _ sz xs tok b off cap c h0 h1 h2 h3 h4 =>
    refine .psl _ _ _ _ _ _ _ c h0 h1 h2 h3 ?_
    cases tok with
    | any => trivial
    | exact => exact h4
    | own id => cases hf
  | lsl => cases hf
  | gsl => cases hf
  | map => cases hf
  | nilm => exact .nilm _
  | yld => cases hf
  | agg => cases hf
  | tup => cases hf

theorem aggFree {φ : Phi} {μ : Mu} {xs : List V} {cs : Array Value} (l : xs.length = cs.size) (r : ∀ j, j < xs.length → Rv φ μ (xs.getD j .undef) (cs.getD j Go.undef)) (hf : xs.all V.free1 = true) (μ' : Mu) : Rv φ μ' (.agg xs) (.agg cs) := by
  refine .agg _ _ _ l (fun j hj => free1_rv (r j hj) ?_ _)
  rw [List.all_eq_true] at hf
  rw [List.getD_eq_getElem?_getD, List.getElem?_eq_getElem hj]
  exact hf _ (List.getElem_mem hj)

theorem free_rv {φ : Phi} {μ : Mu} {v : V} {c : Value} (h : Rv φ μ v c) (hf : v.free = true) (μ' : Mu) : Rv φ μ' v c := by
  unfold V.free at hf
  split at hf
  · obtain ⟨cs, rfl, h'⟩ := h.agg_inv
    exact aggFree h'.1 h'.2 hf _
  · rename_i vs
    obtain ⟨cs, rfl, h'⟩ := h.tup_inv
    refine .tup _ _ _ h'.1 (fun j hj => ?_)
    rw [List.all_eq_true] at hf
    have hm : vs.getD j .undef ∈ vs := by rw [List.getD_eq_getElem?_getD, List.getElem?_eq_getElem hj]; exact List.getElem_mem hj
    have h1 := hf _ hm
    have h2 := h'.2 j hj
    generalize vs.getD j .undef = x at h1 h2
    generalize cs.getD j Go.undef = c at h2
    split at h1
    · obtain ⟨cs', rfl, h''⟩ := h2.agg_inv
      exact aggFree h''.1 h''.2 h1 _
    · exact free1_rv h2 h1 _
  · exact free1_rv h hf _

/-! ### Operators -/
def intOp (op : BinOp) (k : IntKind) (a b : Int) : Option V :=
  match op with
  | .add => some (.int k (k.wrap (a + b)))
  | .sub => some (.int k (k.wrap (a - b)))
  | .mul => some (.int k (k.wrap (a * b)))
  | .and => some (.int k (k.wrap (BitVec.ofInt k.bits a &&& BitVec.ofInt k.bits b).toNat))
  | .or => some (.int k (k.wrap (BitVec.ofInt k.bits a ||| BitVec.ofInt k.bits b).toNat))
  | .xor => some (.int k (k.wrap (BitVec.ofInt k.bits a ^^^ BitVec.ofInt k.bits b).toNat))
  | .andNot => some (.int k (k.wrap (BitVec.ofInt k.bits a &&& ~~~BitVec.ofInt k.bits b).toNat))
  | .eql => some (.bool (a == b))
  | .neq => some (.bool (a != b))
  | .lss => some (.bool (decide (a < b)))
  | .leq => some (.bool (decide (a ≤ b)))
  | .gtr => some (.bool (decide (a > b)))
  | .geq => some (.bool (decide (a ≥ b)))
  | _ => none

def sLess (a b : ByteArray) : Bool := Op.bytesLess a.data.toList b.data.toList

def strOp (op : BinOp) (a b : ByteArray) : Option (Bool × V) :=
  match op with
  | .add => some (decide (a.size + b.size ≤ 9223372036854775807), .str (a ++ b))
  | .eql => some (true, .bool (sEq a b))
  | .neq => some (true, .bool (!sEq a b))
  | .lss => some (true, .bool (sLess a b))
  | .leq => some (true, .bool (sLess a b || sEq a b))
  | .gtr => some (true, .bool (!(sLess a b || sEq a b)))
  | .geq => some (true, .bool (!sLess a b))
  | _ => none

/-- Is it nil? Of some this is not known. -/
def V.nilP : V → Option Bool
  | .nilp => some true
  | .ptr .. => some false
  | .gptr .. => some false
  | .iptr _ => some false
  | _ => none
def V.nilF : V → Option Bool
  | .nilfn => some true
  | .fn .. => some false
  | _ => none
def V.nilM : V → Option Bool
  | .nilm => some true
  | .map _ => some false
  | _ => none
def V.nilS : V → Option Bool
  | .nils => some true
  | .lsl .. => some false
  | .gsl .. => some false
  | .psl _ xs tok => (match xs with | _ :: _ => some false | [] => (match tok with | .any => none | _ => some false))
  | _ => none

/-- Are two alike, of which one may be nil, or both pointers to own blocks? -/
def refEq (T : Nat → Option TI) (t : Nat) (x y : V) : Option Bool :=
  match T t with
  | some ti =>
    match ti.k, x, y with
    | .ptr e, .ptr i q, .ptr j p => (match T e with | some ei => cond (ei.size == 0 || !Nat.beq i j) none (some (Nat.beq q p)) | none => none)
    | .ptr _, .nilp, y => y.nilP
    | .ptr _, x, .nilp => x.nilP
    | .slice _, .nils, y => y.nilS
    | .slice _, x, .nils => x.nilS
    | .func, .nilfn, y => y.nilF
    | .func, x, .nilfn => x.nilF
    | .map .., .nilm, y => y.nilM
    | .map .., x, .nilm => x.nilM
    | _, _, _ => none
  | none => none

def binO (T : Nat → Option TI) (op : BinOp) (t : Nat) (x y : V) : Option (Bool × V) :=
  match x, y with
  | .int k a, .int k' b =>
    (match op with
    | .quo => cond (k == k') (some (decide (b ≠ 0), .int k (k.wrap (a.tdiv b)))) none
    | .rem => cond (k == k') (some (decide (b ≠ 0), .int k (a.tmod b))) none
    | .shl => some (decide (0 ≤ b), .int k (k.wrap (a * 2 ^ (min b.toNat k.bits))))
    | .shr => some (decide (0 ≤ b), .int k (a.fdiv (2 ^ (min b.toNat k.bits))))
    | op => cond (k == k') (match intOp op k a b with | some v => some (true, v) | none => none) none)
  | .str a, .str b => strOp op a b
  | .bool a, .bool b =>
    (match op with
    | .eql => (match T t with | some ti => (match ti.k with | .bool => some (true, .bool (a == b)) | _ => none) | none => none)
    | .neq => (match T t with | some ti => (match ti.k with | .bool => some (true, .bool (!(a == b))) | _ => none) | none => none)
    | _ => none)
  | .agg xs, .agg ys =>
    (match op with
    | .eql => (match eqV T 12 t (.agg xs) (.agg ys) with | some q => some (true, .bool q) | none => none)
    | .neq => (match eqV T 12 t (.agg xs) (.agg ys) with | some q => some (true, .bool (!q)) | none => none)
    | _ => none)
  | x, y =>
    (match op with
    | .eql => (match refEq T t x y with | some q => some (true, .bool q) | none => none)
    | .neq => (match refEq T t x y with | some q => some (true, .bool (!q)) | none => none)
    | _ => none)

theorem eqGuard_int {P : Program} (op : BinOp) (t : TypeId) (x y : Operand) (k k' : IntKind) (a b : Int) (w : World) : (eqGuard op t x y (.int k a) (.int k' b)).run P w = .ok () w := by cases op <;> rfl
theorem eqGuard_str {P : Program} (op : BinOp) (t : TypeId) (x y : Operand) (a b : ByteArray) (w : World) : (eqGuard op t x y (.string a) (.string b)).run P w = .ok () w := by cases op <;> rfl
theorem eqGuard_bool {P : Program} (op : BinOp) (t : TypeId) (x y : Operand) (a b : Bool) (w : World) : (eqGuard op t x y (.bool a) (.bool b)).run P w = .ok () w := by cases op <;> rfl

theorem run_binExec {P : Program} {ρ : Operand → Value} {o : Oper} {op : BinOp} {t ty : TypeId} {x y : Operand} {w : World} {v : Value} (ho : o.op = .binOp op t x y ty) (hg : (eqGuard op t x y (ρ x) (ρ y)).run P w = .ok () w) (hb : (binOp op t (ρ x) (ρ y)).run P w = .ok v w) :
    (execOp ρ o).run P w = .ok (.value v) w := by
  unfold execOp
  simp only [ho, Sem.run_bind, hg, hb, Result.andThen_ok, Sem.run_pure]

theorem run_binInt {P : Program} {op : BinOp} {t : TypeId} {k : IntKind} {a b : Int} {v : V} (h : intOp op k a b = some v) (w : World) (φ : Phi) (μ : Mu) : ∃ c, (binOp op t (.int k a) (.int k b)).run P w = .ok c w ∧ Rv φ μ v c := by
  cases op <;> simp only [intOp, Option.some.injEq, reduceCtorEq] at h <;> subst h <;>
    first
    | exact ⟨_, by simp only [binOp, ne_eq, not_true_eq_false, if_false]; rfl, .int _ _ _⟩
    | exact ⟨_, by simp only [binOp, ne_eq, not_true_eq_false, if_false]; rfl, .bool _ _⟩

theorem sLess_eq (a b : ByteArray) : sLess a b = Op.bytesLess a.toList b.toList := by rw [ByteArray.toList_eq, ByteArray.toList_eq]; rfl

theorem run_binStr {P : Program} {op : BinOp} {t : TypeId} {a b : ByteArray} {c : Bool} {v : V} (h : strOp op a b = some (c, v)) (hc : c = true) (w : World) (φ : Phi) (μ : Mu) : ∃ cv, (binOp op t (.string a) (.string b)).run P w = .ok cv w ∧ Rv φ μ v cv := by
  cases op <;> simp only [strOp, Option.some.injEq, reduceCtorEq, Prod.mk.injEq, sEq_eq, sLess_eq] at h <;> obtain ⟨h1, rfl⟩ := h
  case add =>
    rw [← h1, decide_eq_true_eq] at hc
    refine ⟨.string (a ++ b), ?_, .str _ _⟩
    have hmax : IntKind.i64.max = 9223372036854775807 := rfl
    have : ¬ (((a.size + b.size : Nat) : Int) > IntKind.i64.max) := by rw [hmax]; omega
    simp only [binOp, Op.stringOp, if_neg this]
    rfl
  all_goals exact ⟨_, rfl, .bool _ _⟩

theorem nilP_rv {φ : Phi} {μ : Mu} {v : V} {q : Bool} {c : Value} (h : v.nilP = some q) (hr : Rv φ μ v c) : ∃ a, c = .pointer a ∧ a.isNone = q := by
  cases hr <;> simp only [V.nilP, Option.some.injEq, reduceCtorEq] at h <;> subst h <;> exact ⟨_, rfl, rfl⟩
theorem nilM_rv {φ : Phi} {μ : Mu} {v : V} {q : Bool} {c : Value} (h : v.nilM = some q) (hr : Rv φ μ v c) : ∃ a, c = .map a ∧ a.isNone = q := by
  cases hr <;> simp only [V.nilM, Option.some.injEq, reduceCtorEq] at h <;> subst h <;> exact ⟨_, rfl, rfl⟩
theorem nilF_rv {φ : Phi} {μ : Mu} {v : V} {q : Bool} {c : Value} (h : v.nilF = some q) (hr : Rv φ μ v c) : (c = .nilFunc ∧ q = true) ∨ (∃ f a b, c = .func f a b ∧ q = false) := by
  cases hr <;> simp only [V.nilF, Option.some.injEq, reduceCtorEq] at h <;> subst h
  · exact .inr ⟨_, _, _, rfl, rfl⟩
  · exact .inl ⟨rfl, rfl⟩
theorem nilS_rv {φ : Phi} {μ : Mu} {v : V} {q : Bool} {c : Value} (h : v.nilS = some q) (hr : Rv φ μ v c) : ∃ a n k, c = .slice a n k ∧ a.isNone = q := by
  cases hr with
  | psl _ sz xs tok b off cap c h0 h1 h2 h3 h4 =>
    have : q = false := by
      cases xs with
      | cons x xs => simp only [V.nilS, Option.some.injEq] at h; exact h.symm
      | nil => cases tok <;> simp only [V.nilS, Option.some.injEq, reduceCtorEq] at h <;> exact h.symm
    subst this
    exact ⟨_, _, _, rfl, rfl⟩
  | psl0 => simp only [V.nilS, reduceCtorEq] at h
  | nils => simp only [V.nilS, Option.some.injEq] at h; subst h; exact ⟨_, _, _, rfl, rfl⟩
  | lsl => simp only [V.nilS, Option.some.injEq] at h; subst h; exact ⟨_, _, _, rfl, rfl⟩
  | gsl => simp only [V.nilS, Option.some.injEq] at h; subst h; exact ⟨_, _, _, rfl, rfl⟩
  | _ => simp only [V.nilS, reduceCtorEq] at h

theorem refEq_ok {P : Program} {T : Nat → Option TI} (hT : TOk P T) {φ : Phi} {μ : Mu} {t : Nat} {x y : V} {q : Bool} {cx cy : Value} (hq : refEq T t x y = some q) (hx : Rv φ μ x cx) (hy : Rv φ μ y cy) (w : World) (d : Nat) :
    (Op.equalIn (d + 1) t cx cy).run P w = .ok q w := by
  unfold refEq at hq
  split at hq
  · rename_i ti hti
    obtain ⟨i, de, z, k⟩ := hT t ti hti
    split at hq
    · rename_i e ii q1 jj p1 hk
      have hd := kind_ptr (show kindOk (.ptr e) de = true from hk ▸ k.kind)
      subst hd
      split at hq
      · rename_i ei hei
        obtain ⟨i2, d2, z2, k2⟩ := hT e ei hei
        cases hc : (ei.size == 0 || !Nat.beq ii jj) with
        | true => rw [hc] at hq; cases hq
        | false =>
          rw [hc] at hq
          simp only [cond_false, Option.some.injEq] at hq
          simp only [Bool.or_eq_false_iff, beq_eq_false_iff_ne, ne_eq, Bool.not_eq_false'] at hc
          obtain ⟨hsz, hij⟩ := hc
          have hij := Nat.eq_of_beq_eq_true hij
          subst hij
          cases hx; rename_i b hb
          cases hy; rename_i b' hb'
          have : b = b' := by rw [hb] at hb'; simp at hb'; exact hb'
          subst this
          have hbeq : ((⟨b, q1, none⟩ : Addr) == ⟨b, p1, none⟩) = q := by
            rw [← hq]
            show decide ((⟨b, q1, none⟩ : Addr) = ⟨b, p1, none⟩) = _
            cases hqp : Nat.beq q1 p1 with
            | true => have := Nat.eq_of_beq_eq_true hqp; subst this; simp
            | false =>
              have : q1 ≠ p1 := fun e => by subst e; simp at hqp
              simp [this]
          simp [Op.equalIn, run_underlying k.und, sizeOf, typeInfo, k2.info, k2.size, hsz, sameAddr, hbeq]
      · cases hq
    · rename_i e hk
      have hd := kind_ptr (show kindOk (.ptr e) de = true from hk ▸ k.kind)
      subst hd
      cases hx
      obtain ⟨a, rfl, ha⟩ := nilP_rv hq hy
      simp [Op.equalIn, run_underlying k.und, ha]
    · rename_i e hk _
      have hd := kind_ptr (show kindOk (.ptr e) de = true from hk ▸ k.kind)
      subst hd
      cases hy
      obtain ⟨a, rfl, ha⟩ := nilP_rv hq hx
      cases a <;> simp at ha <;> subst ha <;> simp [Op.equalIn, run_underlying k.und]
    · rename_i e hk
      have hd := kind_slice (show kindOk (.slice e) de = true from hk ▸ k.kind)
      subst hd
      cases hx
      obtain ⟨a, n, kk, rfl, ha⟩ := nilS_rv hq hy
      simp [Op.equalIn, run_underlying k.und, ha]
    · rename_i e hk _
      have hd := kind_slice (show kindOk (.slice e) de = true from hk ▸ k.kind)
      subst hd
      cases hy
      obtain ⟨a, n, kk, rfl, ha⟩ := nilS_rv hq hx
      cases a <;> simp at ha <;> subst ha <;> simp [Op.equalIn, run_underlying k.und]
    · rename_i hk
      obtain ⟨_, _, _, rfl⟩ := kind_func (show kindOk .func de = true from hk ▸ k.kind)
      cases hx
      rcases nilF_rv hq hy with ⟨rfl, rfl⟩ | ⟨f, a, b, rfl, rfl⟩ <;> simp [Op.equalIn, run_underlying k.und]
    · rename_i hk _
      obtain ⟨_, _, _, rfl⟩ := kind_func (show kindOk .func de = true from hk ▸ k.kind)
      cases hy
      rcases nilF_rv hq hx with ⟨rfl, rfl⟩ | ⟨f, a, b, rfl, rfl⟩ <;> simp [Op.equalIn, run_underlying k.und]
    · rename_i hk
      have hd := kind_map (show kindOk (.map _ _) de = true from hk ▸ k.kind)
      subst hd
      cases hx
      obtain ⟨a, rfl, ha⟩ := nilM_rv hq hy
      simp [Op.equalIn, run_underlying k.und, ha]
    · rename_i hk _
      have hd := kind_map (show kindOk (.map _ _) de = true from hk ▸ k.kind)
      subst hd
      cases hy
      obtain ⟨a, rfl, ha⟩ := nilM_rv hq hx
      cases a <;> simp at ha <;> subst ha <;> simp [Op.equalIn, run_underlying k.und]
    · cases hq
  · cases hq

def V.refish : V → Bool
  | .nilp | .ptr .. | .gptr .. | .iptr _ | .nilfn | .fn .. | .nils | .psl .. | .lsl .. | .gsl .. | .map _ | .nilm => true
  | _ => false
theorem refEq_refish {T : Nat → Option TI} {t : Nat} {x y : V} {q : Bool} (h : refEq T t x y = some q) : x.refish = true ∧ y.refish = true := by
  have p : ∀ v : V, ∀ q, v.nilP = some q → v.refish = true := fun v q hv => by cases v <;> first | rfl | simp [V.nilP] at hv
  have f : ∀ v : V, ∀ q, v.nilF = some q → v.refish = true := fun v q hv => by cases v <;> first | rfl | simp [V.nilF] at hv
  have s : ∀ v : V, ∀ q, v.nilS = some q → v.refish = true := fun v q hv => by cases v <;> first | rfl | simp [V.nilS] at hv
  have m : ∀ v : V, ∀ q, v.nilM = some q → v.refish = true := fun v q hv => by cases v <;> first | rfl | simp [V.nilM] at hv
  unfold refEq at h
  split at h
  · split at h <;> first | (cases h; done) | exact ⟨rfl, rfl⟩ | exact ⟨rfl, p _ _ h⟩ | exact ⟨p _ _ h, rfl⟩ | exact ⟨rfl, s _ _ h⟩ | exact ⟨s _ _ h, rfl⟩ | exact ⟨rfl, f _ _ h⟩ | exact ⟨f _ _ h, rfl⟩ | exact ⟨rfl, m _ _ h⟩ | exact ⟨m _ _ h, rfl⟩
  · cases h

theorem refish_rv {φ : Phi} {μ : Mu} {v : V} {c : Value} (h : v.refish = true) (hr : Rv φ μ v c) : (∃ a, c = .pointer a) ∨ (∃ a n k, c = .slice a n k) ∨ (∃ f a b, c = .func f a b) ∨ c = .nilFunc ∨ (∃ m, c = .map m) := by
  cases hr <;> first | (cases h; done) | exact .inl ⟨_, rfl⟩ | exact .inr (.inl ⟨_, _, _, rfl⟩) | exact .inr (.inr (.inl ⟨_, _, _, rfl⟩)) | exact .inr (.inr (.inr (.inl rfl))) | exact .inr (.inr (.inr (.inr ⟨_, rfl⟩)))

theorem run_binRef {P : Program} {t : TypeId} {x y : Operand} {φ : Phi} {μ : Mu} {vx : V} {a b : Value} (hx : Rv φ μ vx a) (h : vx.refish = true) (w : World) {q : Bool} (hq : (Op.equalIn 10000 t a b).run P w = .ok q w) :
    (∀ op, (eqGuard op t x y a b).run P w = .ok () w) ∧ (binOp .eql t a b).run P w = .ok (.bool q) w ∧ (binOp .neq t a b).run P w = .ok (.bool (!q)) w := by
  have e1 : (do pure (Value.bool (← Op.equal t a b)) : Go.Sem Value).run P w = .ok (.bool q) w := by
    simp only [Sem.run_bind, Op.equal, Op.maxDepth, hq, Result.andThen_ok, Sem.run_pure]
  have e2 : (do pure (Value.bool (!(← Op.equal t a b))) : Go.Sem Value).run P w = .ok (.bool (!q)) w := by
    simp only [Sem.run_bind, Op.equal, Op.maxDepth, hq, Result.andThen_ok, Sem.run_pure]
  rcases refish_rv h hx with ⟨_, rfl⟩ | ⟨_, _, _, rfl⟩ | ⟨_, _, _, rfl⟩ | rfl | ⟨_, rfl⟩ <;> exact ⟨fun op => by cases op <;> rfl, e1, e2⟩

theorem binO_ok {P : Program} {T : Nat → Option TI} (hT : TOk P T) {φ : Phi} {μ : Mu} {ρ : Operand → Value} {o : Oper} {op : BinOp} {t ty : TypeId} {x y : Operand} {w : World} {vx vy v : V} {c : Bool} (ho : o.op = .binOp op t x y ty)
    (h : binO T op t vx vy = some (c, v)) (hc : c = true) (hx : Rv φ μ vx (ρ x)) (hy : Rv φ μ vy (ρ y)) : ∃ cv, (execOp ρ o).run P w = .ok (.value cv) w ∧ Rv φ μ v cv := by
  unfold binO at h
  split at h
  · rename_i k a k' b
    generalize hcx : ρ x = cx at *
    generalize hcy : ρ y = cy at *
    cases hx; cases hy
    have key : ∀ v', (binOp op t (.int k a) (.int k' b)).run P w = .ok v' w → (execOp ρ o).run P w = .ok (.value v') w := fun v' hv => run_binExec ho (by rw [hcx, hcy]; exact eqGuard_int _ _ _ _ _ _ _ _ _) (by rw [hcx, hcy]; exact hv)
    split at h
    · cases hk : (k == k') with
      | false => rw [hk] at h; cases h
      | true =>
        rw [hk] at h
        have : k = k' := by simpa using hk
        subst this
        simp only [cond_true, Option.some.injEq, Prod.mk.injEq] at h
        obtain ⟨h1, rfl⟩ := h
        rw [← h1, decide_eq_true_eq] at hc
        exact ⟨_, key (.int k (k.wrap (a.tdiv b))) (by simp [binOp, Op.intDiv, hc]), .int _ _ _⟩
    · cases hk : (k == k') with
      | false => rw [hk] at h; cases h
      | true =>
        rw [hk] at h
        have : k = k' := by simpa using hk
        subst this
        simp only [cond_true, Option.some.injEq, Prod.mk.injEq] at h
        obtain ⟨h1, rfl⟩ := h
        rw [← h1, decide_eq_true_eq] at hc
        exact ⟨_, key (.int k (a.tmod b)) (by simp [binOp, Op.intDiv, hc]), .int _ _ _⟩
    · simp only [Option.some.injEq, Prod.mk.injEq] at h
      obtain ⟨h1, rfl⟩ := h
      rw [← h1, decide_eq_true_eq] at hc
      have : ¬ b < 0 := by omega
      exact ⟨_, key (.int k (k.wrap (a * 2 ^ (min b.toNat k.bits)))) (by simp [binOp, Op.shift, this]), .int _ _ _⟩
    · simp only [Option.some.injEq, Prod.mk.injEq] at h
      obtain ⟨h1, rfl⟩ := h
      rw [← h1, decide_eq_true_eq] at hc
      have : ¬ b < 0 := by omega
      exact ⟨_, key (.int k (a.fdiv (2 ^ (min b.toNat k.bits)))) (by simp [binOp, Op.shift, this]), .int _ _ _⟩
    · cases hk : (k == k') with
      | false => rw [hk] at h; cases h
      | true =>
        rw [hk] at h
        have : k = k' := by simpa using hk
        subst this
        simp only [cond_true] at h
        split at h
        · rename_i v' hv
          simp only [Option.some.injEq, Prod.mk.injEq] at h
          obtain ⟨_, rfl⟩ := h
          obtain ⟨cv, h1, h2⟩ := run_binInt (P := P) (t := t) hv w φ μ
          exact ⟨cv, key cv h1, h2⟩
        · cases h
  · rename_i a b
    generalize hcx : ρ x = cx at *
    generalize hcy : ρ y = cy at *
    cases hx; cases hy
    obtain ⟨cv, h1, h2⟩ := run_binStr (P := P) (t := t) h hc w φ μ
    exact ⟨cv, run_binExec ho (by rw [hcx, hcy]; exact eqGuard_str _ _ _ _ _ _ _) (by rw [hcx, hcy]; exact h1), h2⟩
  · rename_i a b
    generalize hcx : ρ x = cx at *
    generalize hcy : ρ y = cy at *
    cases hx; cases hy
    have hg : (eqGuard op t x y (.bool a) (.bool b)).run P w = .ok () w := eqGuard_bool _ _ _ _ _ _ _
    have key : ∀ ti, T t = some ti → ti.k = .bool → P.underlying t = some .bool := fun ti h1 h2 => by
      obtain ⟨i, d, z, k⟩ := hT t ti h1
      rw [k.und]; exact congrArg some (kind_bool (show kindOk .bool d = true from h2 ▸ k.kind))
    split at h
    · split at h
      · rename_i ti hti
        split at h
        · rename_i hk
          simp only [Option.some.injEq, Prod.mk.injEq] at h
          obtain ⟨_, rfl⟩ := h
          refine ⟨_, run_binExec ho (by rw [hcx, hcy]; exact hg) (v := .bool (a == b)) ?_, .bool _ _⟩
          rw [hcx, hcy]
          have := run_equalIn_bool' (P := P) w 9999 t a b (key ti hti hk)
          simp [binOp, Op.equal, Op.maxDepth, this]
        · cases h
      · cases h
    · split at h
      · rename_i ti hti
        split at h
        · rename_i hk
          simp only [Option.some.injEq, Prod.mk.injEq] at h
          obtain ⟨_, rfl⟩ := h
          refine ⟨_, run_binExec ho (by rw [hcx, hcy]; exact hg) (v := .bool (!(a == b))) ?_, .bool _ _⟩
          rw [hcx, hcy]
          have := run_equalIn_bool' (P := P) w 9999 t a b (key ti hti hk)
          simp [binOp, Op.equal, Op.maxDepth, this]
        · cases h
      · cases h
    · cases h
  · rename_i xs ys
    have hgd : ∀ q, eqV T 12 t (.agg xs) (.agg ys) = some q → P.eqGuardType P.depth t = false := fun q hq => by
      unfold eqV at hq
      split at hq
      · cases hq
      · rename_i ti hti
        obtain ⟨i, d, z, k⟩ := hT t ti hti
        split at hq
        · rename_i h1 _; cases h1
        · rename_i h1 _; cases h1
        · rename_i h1 _; cases h1
        · rename_i hk _ _
          have := k.held
          rw [hk] at this
          exact this.2.1
        · rename_i hk _ _
          have := k.held
          rw [hk] at this
          exact this
        · cases hq
    have heq : ∀ q cx cy, eqV T 12 t (.agg xs) (.agg ys) = some q → Rv φ μ (.agg xs) cx → Rv φ μ (.agg ys) cy → (Op.equalIn 10000 t cx cy).run P w = .ok q w := fun q cx cy hq h1 h2 => eqV_ok hT w 12 10000 t _ _ q cx cy (by omega) hq h1 h2
    obtain ⟨cx, hcx, _⟩ := hx.agg_inv
    obtain ⟨cy, hcy, _⟩ := hy.agg_inv
    split at h
    · split at h
      · rename_i q hq
        simp only [Option.some.injEq, Prod.mk.injEq] at h
        obtain ⟨_, rfl⟩ := h
        have e := heq q _ _ hq hx hy
        rw [hcx, hcy] at e
        refine ⟨_, run_binExec ho (by rw [hcx, hcy]; exact run_eqGuard_agg _ _ _ _ _ _ _ (hgd q hq)) (v := .bool q) ?_, .bool _ _⟩
        rw [hcx, hcy, run_eql_struct, e]; rfl
      · cases h
    · split at h
      · rename_i q hq
        simp only [Option.some.injEq, Prod.mk.injEq] at h
        obtain ⟨_, rfl⟩ := h
        have e := heq q _ _ hq hx hy
        rw [hcx, hcy] at e
        refine ⟨_, run_binExec ho (by rw [hcx, hcy]; exact run_eqGuard_agg _ _ _ _ _ _ _ (hgd q hq)) (v := .bool (!q)) ?_, .bool _ _⟩
        rw [hcx, hcy, run_neq_struct, e]; rfl
      · cases h
    · cases h
  · split at h
    · split at h
      · rename_i q hq
        simp only [Option.some.injEq, Prod.mk.injEq] at h
        obtain ⟨_, rfl⟩ := h
        obtain ⟨h1, h2, _⟩ := run_binRef (x := x) (y := y) hx (refEq_refish hq).1 w (refEq_ok (P := P) hT hq hx hy w 9999)
        exact ⟨_, run_binExec ho (h1 _) h2, .bool _ _⟩
      · cases h
    · split at h
      · rename_i q hq
        simp only [Option.some.injEq, Prod.mk.injEq] at h
        obtain ⟨_, rfl⟩ := h
        obtain ⟨h1, _, h2⟩ := run_binRef (x := x) (y := y) hx (refEq_refish hq).1 w (refEq_ok (P := P) hT hq hx hy w 9999)
        exact ⟨_, run_binExec ho (h1 _) h2, .bool _ _⟩
      · cases h
    · cases h

end Go.Cx
