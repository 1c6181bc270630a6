/- A calculus for calls of the program: canonical values and heaps, and what each operation, loop and call does to them; no condition on the program. -/
import Derived.Test.YtphpngpfllealaaCv4
import Derived.BigFrame
namespace Go.Cv
open Go.RowKit

/-! ### One cell, free of own blocks -/
def V.one : V → Bool
  | .undef | .agg _ | .tup _ => false
  | _ => true

theorem one_cells {φ : Phi} {μ : Mu} {v : V} {c : Value} (h : Rv φ μ v c) (ho : v.one = true) : c.cells = #[c] ∧ c.oneCell' = true := by
  cases h <;> first | (cases ho; done) | exact ⟨rfl, rfl⟩

def V.free1 : V → Bool
  | .ptr .. | .lsl .. | .map _ | .agg _ | .tup _ => false
  | .fn _ a b => a.isEmpty && b.isEmpty
  | .psl _ _ (.own _) => false
  | _ => true

def V.free : V → Bool
  | .agg cs => cs.all V.free1
  | .tup vs => vs.all fun v => match v with | .agg cs => cs.all V.free1 | v => v.free1
  | v => v.free1

theorem free1_rv {φ : Phi} {μ : Mu} {v : V} {c : Value} (h : Rv φ μ v c) (hf : v.free1 = true) (μ' : Mu) : Rv φ μ' v c := by
  cases h with
  | undef => exact .undef _ _
  | bool => exact .bool _ _
  | int => exact .int _ _ _
  | str => exact .str _ _
  | nilp => exact .nilp _
  | ptr => cases hf
  | iptr _ cs b off c h1 h2 => exact .iptr _ _ _ _ c h1 h2
  | fn _ f first caps cf cc l1 l2 h1 h2 =>
    simp only [V.free1, Bool.and_eq_true, List.isEmpty_iff] at hf
    obtain ⟨rfl, rfl⟩ := hf
    exact .fn _ _ _ _ _ _ l1 l2 (fun j hj => by simp at hj) (fun j hj => by simp at hj)
  | nilfn => exact .nilfn _
  | nils => exact .nils _
  | psl0 => exact .psl0 _ _ _ _
  | psl _ sz xs tok b off cap c h0 h1 h2 h3 h4 =>
    refine .psl _ _ _ _ _ _ _ c h0 h1 h2 h3 ?_
    cases tok with
    | any => trivial
    | exact => exact h4
    | own id => cases hf
  | lsl => cases hf
  | map => cases hf
  | agg => cases hf
  | tup => cases hf

theorem aggFree {φ : Phi} {μ : Mu} {xs : List V} {cs : Array Value} (l : xs.length = cs.size) (r : ∀ j, j < xs.length → Rv φ μ (xs.getD j .undef) (cs.getD j Go.undef)) (hf : xs.all V.free1 = true) (μ' : Mu) : Rv φ μ' (.agg xs) (.agg cs) := by
  refine .agg _ _ _ l (fun j hj => free1_rv (r j hj) ?_ _)
  rw [List.all_eq_true] at hf
  rw [List.getD_eq_getElem?_getD, List.getElem?_eq_getElem hj]
  exact hf _ (List.getElem_mem hj)

theorem free_rv {φ : Phi} {μ : Mu} {v : V} {c : Value} (h : Rv φ μ v c) (hf : v.free = true) (μ' : Mu) : Rv φ μ' v c := by
  unfold V.free at hf
  split at hf
  · obtain ⟨cs, rfl, h'⟩ := h.agg_inv
    exact aggFree h'.1 h'.2 hf _
  · rename_i vs
    obtain ⟨cs, rfl, h'⟩ := h.tup_inv
    refine .tup _ _ _ h'.1 (fun j hj => ?_)
    rw [List.all_eq_true] at hf
    have hm : vs.getD j .undef ∈ vs := by rw [List.getD_eq_getElem?_getD, List.getElem?_eq_getElem hj]; exact List.getElem_mem hj
    have h1 := hf _ hm
    have h2 := h'.2 j hj
    generalize vs.getD j .undef = x at h1 h2
    generalize cs.getD j Go.undef = c at h2
    split at h1
    · obtain ⟨cs', rfl, h''⟩ := h2.agg_inv
      exact aggFree h''.1 h''.2 h1 _
    · exact free1_rv h2 h1 _
  · exact free1_rv h hf _

/-! ### Operators -/
def intOp (op : BinOp) (k : IntKind) (a b : Int) : Option V :=
  match op with
  | .add => some (.int k (k.wrap (a + b)))
  | .sub => some (.int k (k.wrap (a - b)))
  | .mul => some (.int k (k.wrap (a * b)))
  | .and => some (.int k (k.wrap (BitVec.ofInt k.bits a &&& BitVec.ofInt k.bits b).toNat))
  | .or => some (.int k (k.wrap (BitVec.ofInt k.bits a ||| BitVec.ofInt k.bits b).toNat))
  | .xor => some (.int k (k.wrap (BitVec.ofInt k.bits a ^^^ BitVec.ofInt k.bits b).toNat))
  | .andNot => some (.int k (k.wrap (BitVec.ofInt k.bits a &&& ~~~BitVec.ofInt k.bits b).toNat))
  | .eql => some (.bool (a == b))
  | .neq => some (.bool (a != b))
  | .lss => some (.bool (decide (a < b)))
  | .leq => some (.bool (decide (a ≤ b)))
  | .gtr => some (.bool (decide (a > b)))
  | .geq => some (.bool (decide (a ≥ b)))
  | _ => none

def strOp (op : BinOp) (a b : ByteArray) : Option V :=
  match op with
  | .eql => some (.bool (sEq a b))
  | .neq => some (.bool (!sEq a b))
  | _ => none

def binV (T : Nat → Option TI) (op : BinOp) (t : Nat) (x y : V) : Option V :=
  match x, y with
  | .int k a, .int k' b => cond (k == k') (intOp op k a b) none
  | .str a, .str b => strOp op a b
  | .bool a, .bool b =>
    match op with
    | .eql => (match T t with | some ti => (match ti.k with | .bool => some (.bool (a == b)) | _ => none) | none => none)
    | .neq => (match T t with | some ti => (match ti.k with | .bool => some (.bool (!(a == b))) | _ => none) | none => none)
    | _ => none
  | .agg xs, .agg ys =>
    match op with
    | .eql => (match eqV T 12 t (.agg xs) (.agg ys) with | some q => some (.bool q) | none => none)
    | .neq => (match eqV T 12 t (.agg xs) (.agg ys) with | some q => some (.bool (!q)) | none => none)
    | _ => none
  | _, _ => none

theorem eqGuard_int {P : Program} (op : BinOp) (t : Nat) (x y : Operand) (k k' : IntKind) (a b : Int) (w : World) : (eqGuard op t x y (.int k a) (.int k' b)).run P w = .ok () w := by cases op <;> rfl
theorem eqGuard_str {P : Program} (op : BinOp) (t : Nat) (x y : Operand) (a b : ByteArray) (w : World) : (eqGuard op t x y (.string a) (.string b)).run P w = .ok () w := by cases op <;> rfl
theorem eqGuard_bool {P : Program} (op : BinOp) (t : Nat) (x y : Operand) (a b : Bool) (w : World) : (eqGuard op t x y (.bool a) (.bool b)).run P w = .ok () w := by cases op <;> rfl

theorem run_binExec {P : Program} {ρ : Operand → Value} {o : Oper} {op : BinOp} {t ty : Nat} {x y : Operand} {w : World} {v : Value} (ho : o.op = .binOp op t x y ty) (hg : (eqGuard op t x y (ρ x) (ρ y)).run P w = .ok () w) (hb : (binOp op t (ρ x) (ρ y)).run P w = .ok v w) :
    (execOp ρ o).run P w = .ok (.value v) w := by
  unfold execOp
  simp only [ho, Sem.run_bind, hg, hb, Result.andThen_ok, Sem.run_pure]

theorem run_binInt {P : Program} {op : BinOp} {t : Nat} {k : IntKind} {a b : Int} {v : V} (h : intOp op k a b = some v) (w : World) (φ : Phi) (μ : Mu) : ∃ c, (binOp op t (.int k a) (.int k b)).run P w = .ok c w ∧ Rv φ μ v c := by
  cases op <;> simp only [intOp, Option.some.injEq, reduceCtorEq] at h <;> subst h <;>
    first
    | exact ⟨_, by simp only [binOp, ne_eq, not_true_eq_false, if_false]; rfl, .int _ _ _⟩
    | exact ⟨_, by simp only [binOp, ne_eq, not_true_eq_false, if_false]; rfl, .bool _ _⟩

theorem binV_ok {P : Program} {T : Nat → Option TI} (hT : TOk P T) {φ : Phi} {μ : Mu} {ρ : Operand → Value} {o : Oper} {op : BinOp} {t ty : Nat} {x y : Operand} {w : World} {vx vy v : V} (ho : o.op = .binOp op t x y ty)
    (h : binV T op t vx vy = some v) (hx : Rv φ μ vx (ρ x)) (hy : Rv φ μ vy (ρ y)) : ∃ c, (execOp ρ o).run P w = .ok (.value c) w ∧ Rv φ μ v c := by
  unfold binV at h
  split at h
  · rename_i k a k' b
    generalize hcx : ρ x = cx at *
    generalize hcy : ρ y = cy at *
    cases hx; cases hy
    cases hk : (k == k') with
    | false => rw [hk] at h; cases h
    | true =>
      rw [hk] at h
      have : k = k' := by simpa using hk
      subst this
      obtain ⟨c, hc, hr⟩ := run_binInt (P := P) (t := t) h w φ μ
      exact ⟨c, run_binExec ho (by rw [hcx, hcy]; exact eqGuard_int _ _ _ _ _ _ _ _ _) (by rw [hcx, hcy]; exact hc), hr⟩
  · rename_i a b
    generalize hcx : ρ x = cx at *
    generalize hcy : ρ y = cy at *
    cases hx; cases hy
    have hg : (eqGuard op t x y (.string a) (.string b)).run P w = .ok () w := eqGuard_str _ _ _ _ _ _ _
    cases op <;> simp only [strOp, Option.some.injEq, reduceCtorEq, sEq_eq] at h <;> subst h
    · exact ⟨_, run_binExec ho (by rw [hcx, hcy]; exact hg) (by rw [hcx, hcy]; rfl), .bool _ _⟩
    · exact ⟨_, run_binExec ho (by rw [hcx, hcy]; exact hg) (by rw [hcx, hcy]; rfl), .bool _ _⟩
  · rename_i a b
    generalize hcx : ρ x = cx at *
    generalize hcy : ρ y = cy at *
    cases hx; cases hy
    have hg : (eqGuard op t x y (.bool a) (.bool b)).run P w = .ok () w := eqGuard_bool _ _ _ _ _ _ _
    have key : ∀ ti, T t = some ti → ti.k = .bool → P.underlying t = some .bool := fun ti h1 h2 => by
      obtain ⟨i, d, z, k⟩ := hT t ti h1
      rw [k.und]; exact congrArg some (kind_bool (show kindOk .bool d = true from h2 ▸ k.kind))
    split at h
    · split at h
      · rename_i ti hti
        split at h
        · rename_i hk
          simp only [Option.some.injEq] at h; subst h
          refine ⟨_, run_binExec ho (by rw [hcx, hcy]; exact hg) (v := .bool (a == b)) ?_, .bool _ _⟩
          rw [hcx, hcy]
          have := run_equalIn_bool' (P := P) w 9999 t a b (key ti hti hk)
          simp [binOp, Op.equal, Op.maxDepth, this]
        · cases h
      · cases h
    · split at h
      · rename_i ti hti
        split at h
        · rename_i hk
          simp only [Option.some.injEq] at h; subst h
          refine ⟨_, run_binExec ho (by rw [hcx, hcy]; exact hg) (v := .bool (!(a == b))) ?_, .bool _ _⟩
          rw [hcx, hcy]
          have := run_equalIn_bool' (P := P) w 9999 t a b (key ti hti hk)
          simp [binOp, Op.equal, Op.maxDepth, this]
        · cases h
      · cases h
    · cases h
  · rename_i xs ys
    have hgd : ∀ q, eqV T 12 t (.agg xs) (.agg ys) = some q → P.eqGuardType P.depth t = false := fun q hq => by
      unfold eqV at hq
      split at hq
      · cases hq
      · rename_i ti hti
        obtain ⟨i, d, z, k⟩ := hT t ti hti
        split at hq
        · rename_i h1 _; cases h1
        · rename_i h1 _; cases h1
        · rename_i h1 _; cases h1
        · rename_i hk _ _
          have := k.held
          rw [hk] at this
          exact this.2.1
        · cases hq
    have heq : ∀ q cx cy, eqV T 12 t (.agg xs) (.agg ys) = some q → Rv φ μ (.agg xs) cx → Rv φ μ (.agg ys) cy → (Op.equalIn 10000 t cx cy).run P w = .ok q w := fun q cx cy hq h1 h2 => eqV_ok hT w 12 10000 t _ _ q cx cy (by omega) hq h1 h2
    obtain ⟨cx, hcx, _⟩ := hx.agg_inv
    obtain ⟨cy, hcy, _⟩ := hy.agg_inv
    split at h
    · split at h
      · rename_i q hq
        simp only [Option.some.injEq] at h; subst h
        have e := heq q _ _ hq hx hy
        rw [hcx, hcy] at e
        refine ⟨_, run_binExec ho (by rw [hcx, hcy]; exact run_eqGuard_agg _ _ _ _ _ _ _ (hgd q hq)) (v := .bool q) ?_, .bool _ _⟩
        rw [hcx, hcy, run_eql_struct, e]; rfl
      · cases h
    · split at h
      · rename_i q hq
        simp only [Option.some.injEq] at h; subst h
        have e := heq q _ _ hq hx hy
        rw [hcx, hcy] at e
        refine ⟨_, run_binExec ho (by rw [hcx, hcy]; exact run_eqGuard_agg _ _ _ _ _ _ _ (hgd q hq)) (v := .bool (!q)) ?_, .bool _ _⟩
        rw [hcx, hcy, run_neq_struct, e]; rfl
      · cases h
    · cases h
  · cases h

end Go.Cv
