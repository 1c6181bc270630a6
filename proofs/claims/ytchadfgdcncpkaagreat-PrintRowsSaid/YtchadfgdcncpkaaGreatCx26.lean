/- A calculus for calls of the program: canonical values and heaps, and what each operation, loop and call does to them; no condition on the program. -/
import Derived.Test.YtchadfgdcncpkaaGreatCx25
namespace Go.Cx
open Go.RowKit
/-! ### A pointer to an own block is handed out for good -/
def FrozenP (v : V) (h' : Heap) (K : V → Heap → Prop) : Prop :=
  ∃ (id : Nat) (e : TypeId) (cs : List V), v = .ptr id 0 ∧ hget h' id = some (.cells e cs) ∧ cs.all cellOk = true ∧ K (.iptr cs) (h'.set id none)
theorem Ret.freezeP {φ : Phi} {μ : Mu} {B : Nat} {w w' : World} {K : V → Heap → Prop} {e : Ending} (h : Ret φ μ B w (fun v h' => FrozenP v h' K) e w') : Ret φ μ B w K e w' := by
  obtain ⟨v, h', φ', μ', cv, rfl, ⟨id, e, cs, rfl, hi, hca, hK⟩, hv, r, hx, hf⟩ := h
  cases hv with
  | ptr _ _ _ b hm =>
    obtain ⟨φ2, hle, r1, hcell, c, hcc⟩ := r.freeze hi hm (.inl rfl) hca
    refine ⟨.iptr cs, _, φ2, μ', _, rfl, hK, .iptr _ cs b 0 c (fun j hj => by rw [Nat.zero_add]; exact (hcc j hj).1) (fun j hj => (hcc j hj).2), r1, ⟨Phi.le_trans hx.phi hle, hx.mu, hx.fresh, fun b' o v hv => ?_⟩, hf⟩
    rcases hcell b' o v hv with h1 | rfl
    · exact hx.cells b' o v h1
    · rcases hx.fresh id b' none hm with ⟨y, hy⟩ | hy
      · exact .inr (.inr ⟨id, y, hy⟩)
      · exact .inr (.inl hy)
theorem Sem.freezeP {P : Program} {g : FuncId} {args : List V} {h : Heap} {K : V → Heap → Prop} (k : Sem P g args h fun v h' => FrozenP v h' K) : Sem P g args h K :=
  ⟨fun φ μ B w cargs hB r ha => (k.run φ μ B w cargs hB r ha).mono fun _ _ h => Ret.freezeP h⟩
end Go.Cx
