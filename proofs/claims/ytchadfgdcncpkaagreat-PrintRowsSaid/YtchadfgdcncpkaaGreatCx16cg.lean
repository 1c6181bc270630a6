/- A calculus for calls of the program: canonical values and heaps, and what each operation, loop and call does to them; no condition on the program. -/
import Derived.Test.YtchadfgdcncpkaaGreatCx16b
namespace Go.Cx
open Go.RowKit

/-! ### Tables -/
def Tri.build {α : Type} : Nat → (Nat → α) → Tri α
  | 0, _ => .nil
  | f + 1, g => .node (build f fun k => g (2 * k + 1)) (g 0) (build f fun k => g (2 * k + 2))
theorem Tri.get_build {α : Type} (d : α) : ∀ (f : Nat) (g : Nat → α) (j : Nat), (Tri.build f g).get d j = g j ∨ (Tri.build f g).get d j = d
  | 0, g, j => .inr rfl
  | f + 1, g, j => by
    rw [Tri.build]
    rcases pos_cases j with ⟨g1, g2⟩ | ⟨g1, g2, g3⟩ | ⟨g1, g2, g3⟩
    · rw [Tri.get_zero g2, g1]; exact .inl rfl
    · rw [Tri.get_odd g2 g3]
      have := Tri.get_build d f (fun k => g (2 * k + 1)) (half j)
      simp only [← g1] at this
      exact this
    · rw [Tri.get_even g2 g3]
      have := Tri.get_build d f (fun k => g (2 * k + 2)) (halfE j)
      simp only [← g1] at this
      exact this

theorem FOk.of_build {P : Program} {ft : Tri (Option Func)} (d : Nat) (h : ft = Tri.build d fun i => P.funcs[i]?) (hn : (P.funcs.all fun fn => !(fn.name == "runtime.NumGoroutine")) = true) : FOk P (ft.get none) := by
  intro g fn hg
  rw [h] at hg
  rcases Tri.get_build none d (fun i => P.funcs[i]?) g with h1 | h1
  · rw [h1] at hg
    simp only [Array.all_eq_true_iff_forall_mem] at hn
    exact ⟨hg, by simpa using hn fn (Array.mem_of_getElem? hg)⟩
  · rw [h1] at hg; cases hg

theorem TOk.of_tri {P : Program} {tt : Tri (Option TI)} (h : ((tt.ents fun i => i).all fun p => match p.2 with | some ti => checkTI P p.1 ti | none => true) = true) : TOk P (tt.get none) := by
  intro t ti ht
  have hm := Tri.ents_all none tt (fun i => i) t (by rw [ht]; simp)
  rw [ht] at hm
  rw [List.all_eq_true] at h
  exact checkTI_ok (h _ hm)

/-! ### Runs -/
def allMut : Nat → Nat → Bool := fun _ _ => true

/-- A call's value, run from an empty heap. -/
noncomputable def valF (F : Nat → Option Func) (NE : Nat → Bool) (P : Program) (T : Nat → Option TI) (md : Nat → Nat → Bool) (fuel n : Nat) (g : FuncId) (args : List V) : Option V :=
  match (callF F NE P T md fuel n).1 g args ⟨.nil, 0⟩ fun v H => some ⟨.ret, ⟨.nil, 0⟩, v, H⟩ with
  | some r => some r.v
  | none => none

theorem HR.nil : HR [] ⟨.nil, 0⟩ := ⟨rfl, fun i => rfl⟩

theorem Sem.of_val {F : Nat → Option Func} {NE : Nat → Bool} {P : Program} {T : Nat → Option TI} (hF : FOk P F) (hNE : NEOk P NE) (hT : TOk P T) (hm : P.follows .mixedOrders = true) (md : Nat → Nat → Bool) (fuel n : Nat) {g : FuncId} {args : List V} {v : V} (hk : valF F NE P T md fuel n g args = some v) : Sem P g args [] fun v' _ => v' = v := by
  unfold valF at hk
  split at hk
  · rename_i r hr
    simp only [Option.some.injEq] at hk
    subst hk
    refine ((callF_ok hF hNE hT hm n).1 g args [] ⟨.nil, 0⟩ _ r HR.nil hr).mono fun v' h' hq => ?_
    obtain ⟨H', _, h2⟩ := hq
    simp only [Option.some.injEq] at h2
    rw [← h2]
  · cases hk

theorem Fn.of_val {F : Nat → Option Func} {NE : Nat → Bool} {P : Program} {T : Nat → Option TI} (hF : FOk P F) (hNE : NEOk P NE) (hT : TOk P T) (hm : P.follows .mixedOrders = true) (md : Nat → Nat → Bool) (fuel n : Nat) {g : FuncId} {args : List V} {v : V} (ha : allFree args = true) (hv : v.free = true) (hk : valF F NE P T md fuel n g args = some v) : Fn P g args v :=
  ⟨ha, hv, Sem.of_val hF hNE hT hm md fuel n hk⟩
theorem NEOk.one {P : Program} {g0 : FuncId} {fn : Func} (hf : P.funcs[g0]? = some fn) (hb : fn.body = none) (hn : fn.name = "internal/abi.NoEscape") (hx : Extern.findNext fn = none) (hy : Extern.find fn = some Extern.AbiNoEscape.same) : NEOk P (fun g => Nat.beq g g0) := fun g hg v h K hk => by
  have := Nat.eq_of_beq_eq_true hg
  subst this
  exact Sem.noEscape hf hb hn hx hy hk
end Go.Cx
namespace Go.Cx
open Go.RowKit

/-! ### Runs that know some calls ahead -/
def SumOk (P : Program) (S : FuncId → List V → Option V) : Prop := ∀ g args v, S g args = some v → Fn P g args v

def sumL : List (FuncId × List V × V) → FuncId → List V → Option V
  | [], _, _ => none
  | e :: l, g, args => cond (Nat.beq e.1 g) (cond (sameL V.same1 e.2.1 args) (some e.2.2) (sumL l g args)) (sumL l g args)
theorem sumL_ok {P : Program} : ∀ (l : List (FuncId × List V × V)), (∀ e ∈ l, Fn P e.1 e.2.1 e.2.2) → SumOk P (sumL l)
  | [], _, _, _, _, h => by cases h
  | e :: l, hl, g, args, v, h => by
    have rest := sumL_ok l fun e he => hl e (List.mem_cons_of_mem _ he)
    rw [sumL] at h
    cases h1 : Nat.beq e.1 g with
    | false => rw [h1] at h; exact rest g args v h
    | true =>
      rw [h1] at h
      simp only [cond_true] at h
      cases h2 : sameL V.same1 e.2.1 args with
      | false => rw [h2] at h; exact rest g args v h
      | true =>
        rw [h2] at h
        simp only [cond_true, Option.some.injEq] at h
        have := hl e (by simp)
        rw [Nat.eq_of_beq_eq_true h1, sameL_ok (fun _ _ => V.same1_ok) _ _ h2, h] at this
        exact this

noncomputable def callS (S : FuncId → List V → Option V) (F : Nat → Option Func) (NE : Nat → Bool) (P : Program) (T : Nat → Option TI) (md : Nat → Nat → Bool) (fuel : Nat) : Nat → CallE × RoundE
  | 0 => (fun _ _ _ _ => none, fun _ _ _ _ => none)
  | n + 1 => (fun g args H K => match S g args with
      | some v => K v H
      | none => (match F g with
        | some fn => (match fn.body with
          | some c => startE args fn.ntmps fun e => wpE F (callS S F NE P T md fuel n).1 (callS S F NE P T md fuel n).2 P T (md g) fuel c e H fun x e' H' => match x with | .exit _ => none | _ => retE T fn.results.toList e' H' K
          | none => cond (NE g) (match args with | [v] => K v H | _ => none) none)
        | none => none), rndE (wpE F (callS S F NE P T md fuel n).1 (callS S F NE P T md fuel n).2 P T (md 0) fuel))

theorem callS_ok {P : Program} {T : Nat → Option TI} {S : FuncId → List V → Option V} {F : Nat → Option Func} {NE : Nat → Bool} (hS : SumOk P S) (hF : FOk P F) (hNE : NEOk P NE) (hT : TOk P T) (hm : P.follows .mixedOrders = true) {md : Nat → Nat → Bool} {fuel : Nat} : ∀ (n : Nat), CallOk P (callS S F NE P T md fuel n).1 ∧ RoundOk P (callS S F NE P T md fuel n).2 := by
  intro n
  induction n with
  | zero => exact ⟨fun g args h H K r hh hk => (by cases hk), fun g args h H K r hh hk => (by cases hk)⟩
  | succ n ih =>
    refine ⟨fun g args h H K r hh hk => ?_, rndE_ok hF hT hm ih.1 ih.2⟩
    simp only [callS] at hk
    split at hk
    · rename_i v hv
      exact (hS g args v hv).sem _ ⟨H, hh, hk⟩
    · split at hk
      · rename_i fn hf
        split at hk
        · rename_i c hc
          obtain ⟨hp, hnm⟩ := hF g fn hf
          obtain ⟨e, h1, h2⟩ := startE_ok hk
          refine Sem.of_body hT (md g) hp hc hnm ?_
          unfold bodyP
          rw [forceL_eq]
          refine wpC_mono c _ _ _ _ (fun x l1 h1 hq => ?_) (wpE_ok hF hT hm ih.1 ih.2 c _ _ _ _ _ h2 hh h1)
          obtain ⟨e2, H2, he2, hh2, hq⟩ := hq
          cases x with
          | normal => exact retE_ok he2 hh2 hq
          | exit id => cases hq
          | ret => exact retE_ok he2 hh2 hq
        · obtain ⟨h1, h2⟩ := gd_some hk
          split at h2
          · exact hNE g h1 _ _ _ ⟨H, hh, h2⟩
          · cases h2
      · cases hk

/-- A call's value, run from an empty heap, by what is known. -/
noncomputable def valS (S : FuncId → List V → Option V) (F : Nat → Option Func) (NE : Nat → Bool) (P : Program) (T : Nat → Option TI) (md : Nat → Nat → Bool) (fuel n : Nat) (g : FuncId) (args : List V) : Option V :=
  match (callS S F NE P T md fuel n).1 g args ⟨.nil, 0⟩ fun v H => some ⟨.ret, ⟨.nil, 0⟩, v, H⟩ with
  | some r => some r.v
  | none => none

theorem Sem.of_valS {S : FuncId → List V → Option V} {F : Nat → Option Func} {NE : Nat → Bool} {P : Program} {T : Nat → Option TI} (hS : SumOk P S) (hF : FOk P F) (hNE : NEOk P NE) (hT : TOk P T) (hm : P.follows .mixedOrders = true) (md : Nat → Nat → Bool) (fuel n : Nat) {g : FuncId} {args : List V} {v : V} (hk : valS S F NE P T md fuel n g args = some v) : Sem P g args [] fun v' _ => v' = v := by
  unfold valS at hk
  split at hk
  · rename_i r hr
    simp only [Option.some.injEq] at hk
    subst hk
    refine ((callS_ok hS hF hNE hT hm n).1 g args [] ⟨.nil, 0⟩ _ r HR.nil hr).mono fun v' h' hq => ?_
    obtain ⟨H', _, h2⟩ := hq
    simp only [Option.some.injEq] at h2
    rw [← h2]
  · cases hk

theorem Fn.of_valS {S : FuncId → List V → Option V} {F : Nat → Option Func} {NE : Nat → Bool} {P : Program} {T : Nat → Option TI} (hS : SumOk P S) (hF : FOk P F) (hNE : NEOk P NE) (hT : TOk P T) (hm : P.follows .mixedOrders = true) (md : Nat → Nat → Bool) (fuel n : Nat) {g : FuncId} {args : List V} {v : V} (ha : allFree args = true) (hv : v.free = true) (hk : valS S F NE P T md fuel n g args = some v) : Fn P g args v :=
  ⟨ha, hv, Sem.of_valS hS hF hNE hT hm md fuel n hk⟩

/-- A call that leaves blocks of its own: from a heap that may be empty at all its places, to the value and the heap behind it. -/
theorem Sem.of_runS {S : FuncId → List V → Option V} {F : Nat → Option Func} {NE : Nat → Bool} {P : Program} {T : Nat → Option TI} (hS : SumOk P S) (hF : FOk P F) (hNE : NEOk P NE) (hT : TOk P T) (hm : P.follows .mixedOrders = true) (md : Nat → Nat → Bool) (fuel n : Nat) {g : FuncId} {args : List V} {h : Heap} {H : Hp} {r : Res} (hh : HR h H) (hk : (callS S F NE P T md fuel n).1 g args H (fun v H => some ⟨.ret, ⟨.nil, 0⟩, v, H⟩) = some r) : Sem P g args h fun v' h' => v' = r.v ∧ HR h' r.h := by
  refine ((callS_ok hS hF hNE hT hm n).1 g args h H _ r hh hk).mono fun v' h' hq => ?_
  obtain ⟨H', h1, h2⟩ := hq
  simp only [Option.some.injEq] at h2
  subst h2
  exact ⟨rfl, h1⟩
end Go.Cx
