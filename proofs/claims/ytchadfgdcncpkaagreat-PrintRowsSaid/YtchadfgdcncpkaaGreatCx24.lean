/- A calculus for calls of the program: canonical values and heaps, and what each operation, loop and call does to them; no condition on the program. -/
import Derived.Test.YtchadfgdcncpkaaGreatCx23
namespace Go.Cx
open Go.RowKit
/-! ### A block that nothing names any more becomes one that may grow -/
def Ghost (h0 : Heap) (v : V) (h' : Heap) (K : V → Heap → Prop) : Prop :=
  ∃ (i : Nat) (e : TypeId) (cs : List V), hget h' i = some (.cells e cs) ∧ h0.length ≤ i ∧ v.refs (fun k => !Nat.beq k i) = true ∧ (∀ k b, k ≠ i → hget h' k = some b → b.refs (fun k => !Nat.beq k i) = true) ∧ K v (h'.set i (some (.grow 0 e 1 [])))
theorem Ret.ghost {φ0 : Phi} {μ0 : Mu} {B : Nat} {w0 w' : World} {h0 : Heap} (r0 : Rel φ0 μ0 B h0 w0) {K : V → Heap → Prop} {en : Ending} (h : Ret φ0 μ0 B w0 (fun v h' => Ghost h0 v h' K) en w') : Ret φ0 μ0 B w0 K en w' := by
  obtain ⟨v, h', φ, μ, cv, rfl, ⟨i, e, cs, hi, hi0, hvr, hoth, hK⟩, hv, r, hx, hf⟩ := h
  obtain ⟨bi, xi, hmi, hbi0, c, hbi1, hbi2, hbi3, hbi4⟩ := r.blk i _ hi
  subst hbi0
  let μ2 : Mu := fun k => if k = i then some (bi, some 0) else μ k
  let φ2 : Phi := φ.sized bi c.size
  have hφ : φ.le φ2 := ⟨fun _ _ _ h => h, fun b n hn => by
    simp only [φ2, Phi.sized]
    split
    · rename_i hb
      subst hb
      obtain ⟨c', e', fr, g1, g2⟩ := r.size _ n hn
      rw [hbi1] at g1
      simp only [Option.some.injEq, Obj.cells.injEq] at g1
      obtain ⟨rfl, _, _⟩ := g1
      rw [g2]
    · exact hn⟩
  have hμ2i : μ2 i = some (bi, some 0) := by simp only [μ2, if_true]
  have hμ2 : ∀ k, k ≠ i → μ2 k = μ k := fun k h1 => by simp only [μ2]; rw [if_neg h1]
  have hp : ∀ k, (!Nat.beq k i) = true → μ2 k = μ k := fun k hk => by
    refine hμ2 k ?_
    rintro rfl
    rw [Nat.beq_refl] at hk; cases hk
  have hil : i < h'.length := hget_lt hi
  have hmu0 : μ0 i = none := by
    cases hq : μ0 i with
    | none => rfl
    | some x => have := (r0.dom i x.1 x.2 hq).1; omega
  have hcase : ∀ k x, μ2 k = some x → (k = i ∧ x = (bi, some 0)) ∨ (k ≠ i ∧ μ k = some x) := fun k x hk => by
    by_cases h1 : k = i
    · subst h1; rw [hμ2i] at hk; exact .inl ⟨rfl, (Option.some.inj hk).symm⟩
    · exact .inr ⟨h1, (hμ2 k h1) ▸ hk⟩
  refine ⟨v, _, φ2, μ2, cv, rfl, hK, (refs_rv hp hv hvr).mono hφ (Mu.le_refl _), ⟨fun g cs hg => (r.glob g cs hg).mono hφ (Mu.le_refl _), r.cell, fun b n hn => ?_, fun k1 k2 b x y h1 h2 => ?_, fun k b x hk => ?_, fun k kb hk => ?_⟩, ⟨Phi.le_trans hx.phi hφ, fun k x hk => ?_, fun k b x hk => ?_, hx.cells⟩, hf⟩
  · simp only [φ2, Phi.sized] at hn
    split at hn
    · rename_i hb
      subst hb
      simp only [Option.some.injEq] at hn
      exact ⟨c, e, _, hbi1, hn⟩
    · exact r.size b n hn
  · rcases hcase k1 _ h1 with ⟨g1, g2⟩ | ⟨g1, g3⟩ <;> rcases hcase k2 _ h2 with ⟨q1, q2⟩ | ⟨q1, q3⟩
    · omega
    · simp only [Prod.mk.injEq] at g2
      have := r.inj _ _ _ _ _ hmi (g2.1 ▸ q3)
      omega
    · simp only [Prod.mk.injEq] at q2
      have := r.inj _ _ _ _ _ hmi (q2.1 ▸ g3)
      omega
    · exact r.inj _ _ _ _ _ g3 q3
  · rw [List.length_set]
    rcases hcase k _ hk with ⟨g1, g2⟩ | ⟨g1, g3⟩
    · simp only [Prod.mk.injEq] at g2
      have := r.dom i _ _ hmi
      exact ⟨by omega, by rw [g2.1]; exact this.2⟩
    · exact r.dom k _ _ g3
  · rw [hget_set] at hk
    split at hk
    · rename_i hh
      obtain ⟨rfl, _⟩ := hh
      simp only [Option.some.injEq] at hk
      subst hk
      exact ⟨bi, some 0, hμ2i, rfl, c, hbi1, Nat.zero_le _, by simp only [φ2, Phi.sized, if_true], fun t ht => absurd ht (Nat.not_lt_zero _), hbi4⟩
    · rename_i hni
      have k1 : k ≠ i := fun e => hni ⟨e.symm, hil⟩
      obtain ⟨b, x, g1, g2⟩ := r.blk k kb hk
      exact ⟨b, x, (hμ2 k k1).trans g1, (refs_blk hp g2 (hoth k kb k1 hk)).mono hφ (Mu.le_refl _) rfl (fun _ _ h => h)⟩
  · have k1 : k ≠ i := fun e => by rw [e, hmu0] at hk; cases hk
    rcases hx.mu k x hk with h1 | ⟨q, b', q', h1, h2, h3⟩
    · exact .inl ((hμ2 k k1).trans h1)
    · exact .inr ⟨q, b', q', h1, (hμ2 k k1).trans h2, h3⟩
  · rcases hcase k _ hk with ⟨g1, g2⟩ | ⟨g1, g3⟩
    · simp only [Prod.mk.injEq] at g2
      rcases hx.fresh i _ _ hmi with ⟨y, hy⟩ | hy
      · have := (r0.dom i _ _ hy).1; omega
      · exact .inr (g2.1 ▸ hy)
    · exact hx.fresh k b x g3
theorem Sem.ghost {P : Program} {g : FuncId} {args : List V} {h : Heap} {K : V → Heap → Prop} (k : Sem P g args h fun v h' => K v h' ∨ Ghost h v h' K) : Sem P g args h K :=
  ⟨fun φ μ B w cargs hB r ha => (k.run φ μ B w cargs hB r ha).mono fun e w' ⟨v, h', φ', μ', cv, e1, hg, hv, rest⟩ => by
    rcases hg with h1 | h1
    · exact ⟨v, h', φ', μ', cv, e1, h1, hv, rest⟩
    · exact Ret.ghost r ⟨v, h', φ', μ', cv, e1, h1, hv, rest⟩⟩
end Go.Cx
