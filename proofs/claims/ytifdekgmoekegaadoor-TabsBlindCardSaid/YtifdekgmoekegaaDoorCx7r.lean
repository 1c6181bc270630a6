/- A calculus for calls of the program: canonical values and heaps, and what each operation, loop and call does to them; no condition on the program. -/
import Derived.Test.YtifdekgmoekegaaDoorCx7i
import Derived.RangeFuncNested
import Derived.OrdersIn
namespace Go.Cx
open Go.RowKit

/-! ### The fence that lets all pass, in a round of a loop or in none -/
def fen (ρ : Option Nat) : Fence := { Fence.wide with round := ρ }
theorem fen_round (ρ : Option Nat) : (fen ρ).round = ρ := rfl

theorem callsIn_fen {ρ : Option Nat} {n : Nat} {P : Program} {f : FuncId} {args : Array Value} {w : World} {R : Ending → World → Prop} : CallsIn (fen ρ) n P f args w R ↔ Calls P f args w R :=
  (callsIn_wide (n := n))

theorem rowsIn_fen {ρ : Option Nat} {n : Nat} {P : Program} {row : String} {args : Array Value} {w : World} {R : Value → World → Prop} (h : Rows P row args w R) : RowsIn (fen ρ) n P row args w R :=
  fun c cs _ => let ⟨v, w', r, s⟩ := h c cs; ⟨v, w', r, stepsIn_wide.2 s⟩

theorem semAt_fen {ρ : Option Nat} {e : Operand → Value} {o : Oper} (h : ∀ c, o.op ≠ .defer c) : Oper.semAt ρ e o = execOp e o := by
  cases ρ with
  | none => exact Oper.semAt_none _ _
  | some l => exact Oper.semAt_some l e o h

theorem depth_fen {ρ : Option Nat} {n : Nat} : (fen ρ).depth.isSome = true → 1 ≤ n := fun h => Bool.noConfusion (show false = true from h)

theorem wpIn_of_op {ρ : Option Nat} {n : Nat} {P : Program} {o : Oper} {a : Act} {w : World} {next : Act → World → Prop} {Q : Exit → Act → World → Prop} (hd : ∀ c, o.op ≠ .defer c) (h : o.wp P a w next Q) : o.wpIn (fen ρ) n P a w next Q := by
  refine ⟨fun _ _ => trivial, ?_⟩
  rw [fen_round, semAt_fen hd]
  unfold Oper.wp at h
  generalize (execOp a.eval o).run P w = r at h ⊢
  cases r with
  | ok x w' =>
    cases x <;> simp only [Oper.upon, Oper.uponIn] at h ⊢ <;> first | exact h | exact ⟨depth_fen, callsIn_fen.2 (Calls.mono h fun e w'' he => by cases e <;> exact he)⟩ | exact ⟨depth_fen, rowsIn_fen h⟩ | exact (show False from h).elim
  | halt x w' => cases x <;> simp only [Oper.upon, Oper.uponIn] at h ⊢ <;> exact h

/-- The record of the loop, of which this is a round, lies there. -/
def RoOk (ρ : Option Nat) (w : World) : Prop := ∀ l, ρ = some l → ∃ r, w.heap[l]? = some (Obj.loop r)
theorem RoOk.none (w : World) : RoOk none w := fun l h => by cases h
theorem RoOk.fr {ρ : Option Nat} {μ : Mu} {w w' : World} (h : RoOk ρ w) (f : Fr μ w w') : RoOk ρ w' := fun l e => let ⟨r, hr⟩ := h l e; f.loops l r hr

/-! ### Marks -/
def markOf (r : Nat) : Deferred := { target := .collected r, args := #[] }
/-- What has been added to the deferred calls: marks of empty blocks. -/
def Mk (μ : Mu) (w0 w : World) (d d' : List Deferred) : Prop := ∃ ms : List Nat, d' = ms.map markOf ++ d ∧ ms.Nodup ∧ ∀ r ∈ ms, w0.heap.size ≤ r ∧ w.heap[r]? = some (.deferred (some [])) ∧ ∀ i x, μ i ≠ some (r, x)
theorem Mk.refl (μ : Mu) (w0 w : World) (d : List Deferred) : Mk μ w0 w d d := ⟨[], rfl, List.nodup_nil, fun r h => by cases h⟩
theorem Mk.of_eq {μ : Mu} {w0 w : World} {d d' : List Deferred} (h : d' = d) : Mk μ w0 w d d' := h ▸ Mk.refl μ w0 w d
theorem Mk.trans {φ φ1 : Phi} {μ μ1 : Mu} {w0 w1 w2 : World} {d d1 d2 : List Deferred} (hs : w0.heap.size ≤ w1.heap.size) (h : Mk μ w0 w1 d d1) (hx : Ext φ μ w1 φ1 μ1) (hf : Fr μ w1 w2) (g : Mk μ1 w1 w2 d1 d2) : Mk μ1 w0 w2 d d2 := by
  obtain ⟨m1, rfl, n1, h1⟩ := h
  obtain ⟨m2, rfl, n2, h2⟩ := g
  have hlt : ∀ r ∈ m1, r < w1.heap.size := fun r hr => (Array.getElem?_eq_some_iff.1 (h1 r hr).2.1).1
  refine ⟨m2 ++ m1, by simp, List.nodup_append.2 ⟨n2, n1, fun x hx y hy e => ?_⟩, fun r hr => ?_⟩
  · have a1 := (h2 x hx).1
    have a2 := hlt y hy
    omega
  · rcases List.mem_append.1 hr with h' | h'
    · have := h2 r h'
      exact ⟨by omega, this.2⟩
    · have := h1 r h'
      refine ⟨this.1, (hf.block r (hlt r h') this.2.2).trans this.2.1, fun i x hi => ?_⟩
      rcases hx.fresh i r x hi with ⟨y, hy⟩ | hy
      · exact this.2.2 i y hy
      · have := hlt r h'; omega
end Go.Cx
