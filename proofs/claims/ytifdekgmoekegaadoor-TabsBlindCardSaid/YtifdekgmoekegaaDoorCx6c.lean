/- A calculus for calls of the program: canonical values and heaps, and what each operation, loop and call does to them; no condition on the program. -/
import Derived.Test.YtifdekgmoekegaaDoorCx6b
namespace Go.Cx
open Go.RowKit

theorem run_askRoom (P : Program) (w : World) (n : Nat) : (askRoom n).run P w = .ok () w := by
  unfold askRoom
  split <;> rfl

theorem zeros_false {P : Program} {xt e : Nat} {ts : Array Nat} (h1 : ts[1]? = some xt) (hu : P.underlying xt = some (.slice e)) (w : World) :
    (match ts[1]? with
      | some xType => (do pure ((← underlying xType) matches .int _) : Go.Sem Bool)
      | none => pure false).run P w = .ok false w := by
  simp only [h1, Sem.run_bind, run_underlying hu, Result.andThen_ok, Sem.run_pure]

def sliceish (d : TypeDesc) : Prop := d = .string ∨ ∃ e, d = .slice e

/-- append makes a new row. -/
theorem run_append_grow {P : Program} {t xt e ty : Nat} {dx : TypeDesc} {i : TypeInfo} {z : Value} {base : Option Addr} {sLen sCap n : Nat} {x : Value} {w : World} {old new : Array Value}
    (ht : P.underlying t = some (.slice e)) (hxt : P.underlying xt = some dx) (hdx : sliceish dx) (hi : P.info? e = some i) (hz : i.zero = some z) (hb : 0 < i.bytes)
    (hlen : Builtin.lenOf x = pure n) (hgt : sCap < sLen + n) (hfit : (sLen + n) * (2 * i.bytes) ≤ 281474976710656)
    (hold : (Builtin.firstCells i.size sLen (.slice base sLen sCap)).run P { w with drawn := w.drawn + 1 } = .ok old { w with drawn := w.drawn + 1 })
    (hnew : (Builtin.firstCells i.size n x).run P { w with drawn := w.drawn + 1 } = .ok new { w with drawn := w.drawn + 1 }) :
    ∃ cap, sLen + n ≤ cap ∧ (Builtin.append_ #[t, xt] ty #[.slice base sLen sCap, x]).run P w =
      .ok (.slice (some ⟨w.heap.size, 0, none⟩) (sLen + n) cap) (({ w with drawn := w.drawn + 1 } : World).alloc (.cells (old ++ new ++ Builtin.zeroCells z.cells (cap - (sLen + n))) e)) := by
  refine ⟨(Question.appendCap (sLen + n) sCap e).cut (w.tape w.drawn (.appendCap (sLen + n) sCap e)), by simp only [Question.cut]; omega, ?_⟩
  have hnf : ¬ (sLen + n ≤ sCap) := by omega
  have hbb : ¬ (i.bytes = 0) := by omega
  have hnext : ¬ (Builtin.nextslicecap (sLen + n) sCap * i.bytes > 2 ^ 48) := by
    have h1 := nextcap_le hgt
    have h2 : Builtin.nextslicecap (sLen + n) sCap * i.bytes ≤ 2 * (sLen + n) * i.bytes := Nat.mul_le_mul_right _ h1
    have h3 : 2 * (sLen + n) * i.bytes = (sLen + n) * (2 * i.bytes) := by rw [Nat.mul_comm 2, Nat.mul_assoc]
    omega
  have hq : (Question.appendCap (sLen + n) sCap e).forced = false := rfl
  unfold Builtin.append_
  rcases hdx with rfl | ⟨xe, rfl⟩ <;>
  simp only [Array.getElem?_eq_getElem, List.size_toArray, List.length_cons, List.length_nil, Nat.zero_lt_succ, Nat.lt_add_one, List.getElem_toArray, List.getElem_cons_zero, List.getElem_cons_succ, Sem.run_bind, run_underlying ht, run_underlying hxt, Result.andThen_ok, Sem.run_pure, run_sizeOf hi, Bool.false_eq_true, if_false, hlen, hnf, typeInfo, run_program, hi, hbb, or_self, and_false, hnext, run_choose, hq, run_askRoom, hold, hnew, Bool.not_false, if_true, run_zeroValue hi hz, newRow, run_newObj']

/-- append writes into what is there. -/
theorem run_append_fit {P : Program} {t xt e ty : Nat} {dx : TypeDesc} {i : TypeInfo} {a : Addr} {sLen sCap n : Nat} {x : Value} {w w' : World} {new : Array Value}
    (ht : P.underlying t = some (.slice e)) (hxt : P.underlying xt = some dx) (hdx : sliceish dx) (hi : P.info? e = some i)
    (hlen : Builtin.lenOf x = pure n) (hle : sLen + n ≤ sCap)
    (hnew : (Builtin.firstCells i.size n x).run P w = .ok new w) (hst : (storeCells (a.add (sLen * i.size)) new.toList).run P w = .ok () w') :
    (Builtin.append_ #[t, xt] ty #[.slice (some a) sLen sCap, x]).run P w = .ok (.slice (some a) (sLen + n) sCap) w' := by
  unfold Builtin.append_
  rcases hdx with rfl | ⟨xe, rfl⟩ <;>
  simp only [Array.getElem?_eq_getElem, List.size_toArray, List.length_cons, List.length_nil, Nat.zero_lt_succ, Nat.lt_add_one, List.getElem_toArray, List.getElem_cons_zero, List.getElem_cons_succ, Sem.run_bind, run_underlying ht, run_underlying hxt, Result.andThen_ok, Sem.run_pure, run_sizeOf hi, Bool.false_eq_true, if_false, hlen, hle, hnew, Bool.not_false, if_true, hst]

/-- append of nothing. -/
theorem run_append_none {P : Program} {t xt e ty : Nat} {dx : TypeDesc} {i : TypeInfo} {base : Option Addr} {sLen sCap : Nat} {x : Value} {w : World}
    (ht : P.underlying t = some (.slice e)) (hxt : P.underlying xt = some dx) (hdx : sliceish dx) (hi : P.info? e = some i)
    (hlen : Builtin.lenOf x = pure 0) (hle : sLen ≤ sCap) (hnew : (Builtin.firstCells i.size 0 x).run P w = .ok #[] w) :
    (Builtin.append_ #[t, xt] ty #[.slice base sLen sCap, x]).run P w = .ok (.slice base sLen sCap) w := by
  unfold Builtin.append_
  rcases hdx with rfl | ⟨xe, rfl⟩ <;> cases base <;>
    simp only [Array.getElem?_eq_getElem, List.size_toArray, List.length_cons, List.length_nil, Nat.zero_lt_succ, Nat.lt_add_one, List.getElem_toArray, List.getElem_cons_zero, List.getElem_cons_succ, Sem.run_bind, run_underlying ht, run_underlying hxt, Result.andThen_ok, Sem.run_pure, run_sizeOf hi, Bool.false_eq_true, if_false, hlen, Nat.add_zero, hle, hnew, Bool.not_false, if_true, storeCells]
end Go.Cx
