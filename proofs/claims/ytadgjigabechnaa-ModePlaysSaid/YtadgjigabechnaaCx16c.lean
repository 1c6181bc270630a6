/- A calculus for calls of the program: canonical values and heaps, and what each operation, loop and call does to them; no condition on the program. -/
import Derived.Test.YtadgjigabechnaaCx16b
namespace Go.Cx
open Go.RowKit

/-! ### Tables -/
def Tri.build {α : Type} : Nat → (Nat → α) → Tri α
  | 0, _ => .nil
  | f + 1, g => .node (build f fun k => g (2 * k + 1)) (g 0) (build f fun k => g (2 * k + 2))
theorem Tri.get_build {α : Type} (d : α) : ∀ (f : Nat) (g : Nat → α) (j : Nat), (Tri.build f g).get d j = g j ∨ (Tri.build f g).get d j = d
  | 0, g, j => .inr rfl
  | f + 1, g, j => by
    rw [Tri.build]
    rcases pos_cases j with ⟨g1, g2⟩ | ⟨g1, g2, g3⟩ | ⟨g1, g2, g3⟩
    · rw [Tri.get_zero g2, g1]; exact .inl rfl
    · rw [Tri.get_odd g2 g3]
      have := Tri.get_build d f (fun k => g (2 * k + 1)) (half j)
      simp only [← g1] at this
      exact this
    · rw [Tri.get_even g2 g3]
      have := Tri.get_build d f (fun k => g (2 * k + 2)) (halfE j)
      simp only [← g1] at this
      exact this

theorem FOk.of_build {P : Program} {ft : Tri (Option Func)} (d : Nat) (h : ft = Tri.build d fun i => P.funcs[i]?) (hn : (P.funcs.all fun fn => !(fn.name == "runtime.NumGoroutine")) = true) : FOk P (ft.get none) := by
  intro g fn hg
  rw [h] at hg
  rcases Tri.get_build none d (fun i => P.funcs[i]?) g with h1 | h1
  · rw [h1] at hg
    simp only [Array.all_eq_true_iff_forall_mem] at hn
    exact ⟨hg, by simpa using hn fn (Array.mem_of_getElem? hg)⟩
  · rw [h1] at hg; cases hg

theorem TOk.of_tri {P : Program} {tt : Tri (Option TI)} (h : ((tt.ents fun i => i).all fun p => match p.2 with | some ti => checkTI P p.1 ti | none => true) = true) : TOk P (tt.get none) := by
  intro t ti ht
  have hm := Tri.ents_all none tt (fun i => i) t (by rw [ht]; simp)
  rw [ht] at hm
  rw [List.all_eq_true] at h
  exact checkTI_ok (h _ hm)

/-! ### Runs -/
def allMut : Nat → Nat → Bool := fun _ _ => true

/-- A call's value, run from an empty heap. -/
noncomputable def valF (F : Nat → Option Func) (NE : Nat → Bool) (P : Program) (T : Nat → Option TI) (md : Nat → Nat → Bool) (fuel n : Nat) (g : FuncId) (args : List V) : Option V :=
  match (callF F NE P T md fuel n).1 g args ⟨.nil, 0⟩ fun v H => some ⟨.ret, ⟨.nil, 0⟩, v, H⟩ with
  | some r => some r.v
  | none => none

theorem HR.nil : HR [] ⟨.nil, 0⟩ := ⟨rfl, fun i => rfl⟩

theorem Sem.of_val {F : Nat → Option Func} {NE : Nat → Bool} {P : Program} {T : Nat → Option TI} (hF : FOk P F) (hNE : NEOk P NE) (hT : TOk P T) (hm : P.follows .mixedOrders = true) (md : Nat → Nat → Bool) (fuel n : Nat) {g : FuncId} {args : List V} {v : V} (hk : valF F NE P T md fuel n g args = some v) : Sem P g args [] fun v' _ => v' = v := by
  unfold valF at hk
  split at hk
  · rename_i r hr
    simp only [Option.some.injEq] at hk
    subst hk
    refine ((callF_ok hF hNE hT hm n).1 g args [] ⟨.nil, 0⟩ _ r HR.nil hr).mono fun v' h' hq => ?_
    obtain ⟨H', _, h2⟩ := hq
    simp only [Option.some.injEq] at h2
    rw [← h2]
  · cases hk

theorem Fn.of_val {F : Nat → Option Func} {NE : Nat → Bool} {P : Program} {T : Nat → Option TI} (hF : FOk P F) (hNE : NEOk P NE) (hT : TOk P T) (hm : P.follows .mixedOrders = true) (md : Nat → Nat → Bool) (fuel n : Nat) {g : FuncId} {args : List V} {v : V} (ha : allFree args = true) (hv : v.free = true) (hk : valF F NE P T md fuel n g args = some v) : Fn P g args v :=
  ⟨ha, hv, Sem.of_val hF hNE hT hm md fuel n hk⟩
theorem NEOk.one {P : Program} {g0 : FuncId} {fn : Func} (hf : P.funcs[g0]? = some fn) (hb : fn.body = none) (hn : fn.name = "internal/abi.NoEscape") (hx : Extern.findNext fn = none) (hy : Extern.find fn = some Extern.AbiNoEscape.same) : NEOk P (fun g => Nat.beq g g0) := fun g hg v h K hk => by
  have := Nat.eq_of_beq_eq_true hg
  subst this
  exact Sem.noEscape hf hb hn hx hy hk
end Go.Cx
