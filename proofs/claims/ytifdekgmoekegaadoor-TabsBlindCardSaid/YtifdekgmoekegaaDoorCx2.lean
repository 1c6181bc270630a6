/- A calculus for calls of the program: canonical values and heaps, and what each operation, loop and call does to them; no condition on the program. -/
import Derived.Test.YtifdekgmoekegaaDoorCx1
import Derived.Laws.StructEq
import Derived.Laws.IdiomCopy
import Derived.ChangeKeysEq
import Derived.Laws.Strings
namespace Go.Cx
open Go.RowKit

/-! ### The table of types -/
inductive TK where
  | bool | int (k : IntKind) | str | slice (e : Nat) | arr (n e : Nat) | struct (fs : List (Nat × Nat)) | ptr (e : Nat) | map (k e : Nat) | func | uptr | other

structure TI where
  k : TK
  size : Nat
  bytes : Nat
  zero : V

def kindOk : TK → TypeDesc → Bool
  | .bool, .bool => true
  | .int k, .int k' => k == k'
  | .str, .string => true
  | .slice e, .slice e' => e == e'
  | .arr n e, .array n' e' => n == n' && e == e'
  | .struct fs, .struct gs => gs.toList.map (fun f => (f.offset, f.type)) == fs
  | .ptr e, .pointer e' => e == e'
  | .map k e, .map k' e' => k == k' && e == e'
  | .func, .func .. => true
  | .uptr, .unsafePointer => true
  | .other, .struct _ => false
  | .other, .array .. => false
  | .other, _ => true
  | _, _ => false

def zOk1 : V → Value → Bool
  | .undef, _ => true
  | .bool b, .bool c => b == c
  | .int k n, .int k' n' => k == k' && n == n'
  | .str s, .string s' => s.data.toList == s'.data.toList
  | .nilp, .pointer none => true
  | .nils, .slice none 0 0 => true
  | .nilfn, .nilFunc => true
  | .nilm, .map none => true
  | _, _ => false

def zOk : V → Value → Bool
  | .agg xs, .agg cs => xs.length == cs.size && (List.range xs.length).all fun j => zOk1 (xs.getD j .undef) (cs.getD j Go.undef)
  | .agg _, _ => false
  | v, c => zOk1 v c

theorem zOk1_rv {v : V} {c : Value} (h : zOk1 v c = true) (φ : Phi) (μ : Mu) : Rv φ μ v c := by
  cases v <;> cases c <;> (try simp only [zOk1, Bool.false_eq_true, Bool.and_eq_true, beq_iff_eq] at h) <;> try exact .undef _ _
  · subst h; exact .bool _ _
  · obtain ⟨rfl, rfl⟩ := h; exact .int _ _ _
  · rename_i s s'
    have : s = s' := by cases s; cases s'; simp at h; simpa using h
    subst this; exact .str _ _
  · rename_i a
    cases a with
    | none => exact .nilp _
    | some a => simp [zOk1] at h
  · exact .nilfn _
  · rename_i a n m
    split at h <;> simp_all
    exact .nils _
  · rename_i a
    cases a with
    | none => exact .nilm _
    | some a => simp [zOk1] at h

theorem zOk_rv {v : V} {c : Value} (h : zOk v c = true) (φ : Phi) (μ : Mu) : Rv φ μ v c := by
  unfold zOk at h
  split at h
  · simp only [Bool.and_eq_true, beq_iff_eq, List.all_eq_true, List.mem_range] at h
    exact .agg _ _ _ h.1 (fun j hj => zOk1_rv (h.2 j hj) _ _)
  · cases h
  · exact zOk1_rv h _ _

def namesOk : TypeDesc → Bool
  | .struct gs => gs.all fun f => f.name != "_"
  | _ => true

structure tiOk (P : Program) (t : Nat) (ti : TI) (i : TypeInfo) (d : TypeDesc) (z : Value) : Prop where
  info : P.info? t = some i
  und : P.underlying t = some d
  size : i.size = ti.size
  bytes : i.bytes = ti.bytes
  kind : kindOk ti.k d = true
  zero : i.zero = some z
  zrv : ∀ φ μ, Rv φ μ ti.zero z
  zcells : z.cells.size = ti.size
  held : (match ti.k with | .struct _ => P.stoodInHeld t = false ∧ P.eqGuardType P.depth t = false ∧ namesOk d = true | .arr .. => P.eqGuardType P.depth t = false | _ => True)

def checkTI (P : Program) (t : Nat) (ti : TI) : Bool :=
  match P.info? t, P.underlying t with
  | some i, some d =>
    i.size == ti.size && i.bytes == ti.bytes && kindOk ti.k d &&
    (match i.zero with | some z => zOk ti.zero z && z.cells.size == ti.size | none => false) &&
    (match ti.k with | .struct _ => !P.stoodInHeld t && !P.eqGuardType P.depth t && namesOk d | .arr .. => !P.eqGuardType P.depth t | _ => true)
  | _, _ => false

theorem checkTI_ok {P : Program} {t : Nat} {ti : TI} (h : checkTI P t ti = true) : ∃ i d z, tiOk P t ti i d z := by
  unfold checkTI at h
  split at h
  · rename_i i d hi hd
    simp only [Bool.and_eq_true, beq_iff_eq] at h
    obtain ⟨⟨⟨⟨h1, h2⟩, h3⟩, h4⟩, h5⟩ := h
    split at h4
    · rename_i z hz
      simp only [Bool.and_eq_true, beq_iff_eq] at h4
      refine ⟨i, d, z, hi, hd, h1, h2, h3, hz, fun φ μ => zOk_rv h4.1 φ μ, h4.2, ?_⟩
      split at h5
      · simp only [Bool.and_eq_true, Bool.not_eq_true'] at h5
        exact ⟨h5.1.1, h5.1.2, h5.2⟩
      · simpa using h5
      · trivial
    · cases h4
  · cases h

/-- The table fits the program. -/
def TOk (P : Program) (T : Nat → Option TI) : Prop := ∀ t ti, T t = some ti → ∃ i d z, tiOk P t ti i d z

def tabOf (l : List (Option TI)) (t : Nat) : Option TI := (l[t]?).join
theorem TOk_of_list {P : Program} {l : List (Option TI)} (h : ((List.range l.length).all fun t => match tabOf l t with | some ti => checkTI P t ti | none => true) = true) : TOk P (tabOf l) := by
  intro t ti ht
  have hl : t < l.length := by
    rcases Nat.lt_or_ge t l.length with h' | h'
    · exact h'
    · unfold tabOf at ht; rw [List.getElem?_eq_none h'] at ht; cases ht
  simp only [List.all_eq_true, List.mem_range] at h
  have := h t hl
  rw [ht] at this
  exact checkTI_ok this

/-! ### Operands -/
def ofC1 : Value → V
  | .bool b => .bool b
  | .int k n => .int k n
  | .string s => .str s
  | .pointer none => .nilp
  | .slice none 0 0 => .nils
  | .nilFunc => .nilfn
  | .map none => .nilm
  | _ => .undef
def ofC : Value → V
  | .agg cs => .agg (cs.toList.map ofC1)
  | v => ofC1 v

theorem ofC1_rv (c : Value) (φ : Phi) (μ : Mu) : Rv φ μ (ofC1 c) c := by
  unfold ofC1
  split
  · exact .bool _ _
  · exact .int _ _ _
  · exact .str _ _
  · exact .nilp _
  · exact .nils _
  · exact .nilfn _
  · exact .nilm _
  · exact .undef _ _

theorem ofC_rv (c : Value) (φ : Phi) (μ : Mu) : Rv φ μ (ofC c) c := by
  unfold ofC
  split
  · rename_i cs
    refine .agg _ _ _ (by simp) (fun j hj => ?_)
    simp at hj
    have : (cs.toList.map ofC1).getD j .undef = ofC1 (cs.getD j Go.undef) := by
      simp [hj]
    rw [this]
    exact ofC1_rv _ _ _
  · exact ofC1_rv _ _ _

def evE (env : List V) : Operand → V
  | .tmp t => env.getD t .undef
  | .const v => ofC v
  | .global g => (match globTab g with | some cs => .iptr cs | none => .undef)
  | .func f => .fn (.func f) [] []

structure EnvR (φ : Phi) (μ : Mu) (env : List V) (tmps : Array Value) : Prop where
  size : env.length = tmps.size
  rv : ∀ j, Rv φ μ (env.getD j .undef) (tmps.getD j Go.undef)

theorem EnvR.eval {φ : Phi} {μ : Mu} {env : List V} {a : Act} (h : EnvR φ μ env a.tmps) {B : Nat} {hp : Heap} {w : World} (r : Rel φ μ B hp w) (x : Operand) : Rv φ μ (evE env x) (a.eval x) := by
  cases x with
  | tmp t => exact h.rv t
  | const v => exact ofC_rv _ _ _
  | global g =>
    simp only [evE]
    split
    · rename_i cs hcs
      exact (r.glob g cs hcs).mono φ.le_refl (mu0_le μ)
    · exact .undef _ _
  | func f => exact .fn _ _ _ _ _ _ rfl rfl (fun j hj => by simp at hj) (fun j hj => by simp at hj)

theorem EnvR.mono {φ φ' : Phi} {μ μ' : Mu} (hφ : φ.le φ') (hμ : μ.le μ') {env : List V} {tmps : Array Value} (h : EnvR φ μ env tmps) : EnvR φ' μ' env tmps :=
  ⟨h.size, fun j => (h.rv j).mono hφ hμ⟩

theorem getD_set (l : List V) (i j : Nat) (v : V) : (l.set i v).getD j .undef = if i = j ∧ i < l.length then v else l.getD j .undef := by
  simp only [List.getD_eq_getElem?_getD, List.getElem?_set]
  by_cases h : i = j
  · subst h
    by_cases h' : i < l.length
    · simp [h']
    · simp [h']
  · simp [h]

theorem EnvR.put {φ : Phi} {μ : Mu} {env : List V} {a : Act} (h : EnvR φ μ env a.tmps) {v : V} {cv : Value} (hv : Rv φ μ v cv) (d : Option Tmp) :
    EnvR φ μ (match d with | some d => env.set d v | none => env) (a.put d cv).tmps := by
  cases d with
  | none => exact h
  | some d =>
    refine ⟨by simp [Act.put, h.size], fun j => ?_⟩
    simp only [Act.put]
    rw [getD_set]
    by_cases hd : d = j ∧ d < env.length
    · rw [if_pos hd]
      obtain ⟨rfl, hl⟩ := hd
      have : (a.tmps.setIfInBounds d cv).getD d Go.undef = cv := by
        simp [Array.getD_eq_getD_getElem?, ← h.size, hl]
      rw [this]; exact hv
    · rw [if_neg hd]
      have : (a.tmps.setIfInBounds d cv).getD j Go.undef = a.tmps.getD j Go.undef := by
        by_cases hj : d = j
        · subst hj
          have hl : ¬ d < a.tmps.size := by rw [← h.size]; exact fun hl => hd ⟨rfl, hl⟩
          simp [Array.getD_eq_getD_getElem?, hl]
        · simp [Array.getD_eq_getD_getElem?, Array.getElem?_setIfInBounds_ne hj]
      rw [this]; exact h.rv j

end Go.Cx
