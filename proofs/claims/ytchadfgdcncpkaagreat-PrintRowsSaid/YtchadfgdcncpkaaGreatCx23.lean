/- A calculus for calls of the program: canonical values and heaps, and what each operation, loop and call does to them; no condition on the program. -/
import Derived.Test.YtchadfgdcncpkaaGreatCx21g
namespace Go.Cx
open Go.RowKit
/-! ### A block that is new takes the place of one that grows -/
theorem Mu.le_of_add {μ : Mu} {i j b0 m b m2 : Nat} (hi : μ i = some (b0, some m)) (hm : m < m2) : Mu.le (fun k => if k = j then none else μ k) (fun k => if k = i then some (b, some m2) else if k = j then none else μ k) := fun k x hx => by
  by_cases hk : k = i
  · subst hk
    simp only at hx
    split at hx
    · cases hx
    · rw [hi] at hx
      simp only [Option.some.injEq] at hx
      subst hx
      exact .inr ⟨m, b, m2, rfl, by simp only [if_true], hm⟩
  · left
    simp only [if_neg hk]
    exact hx

/-- What stands in a slice of block j stands in block i: a field of block s names it, and nothing else does. -/
def Moved (h0 : Heap) (v : V) (h' : Heap) (K : V → Heap → Prop) : Prop :=
  ∃ (i j s m m0 ver sz n lo : Nat) (ex : Bool) (e e1 e2 e3 : TypeId) (s0 s1 : Nat) (cs0 cs1 cs pre post : List V),
    hget h0 i = some (.grow m0 e1 s0 cs0) ∧ hget h' i = some (.grow m e2 s1 cs1) ∧ h0.length ≤ j ∧ i ≠ j ∧ s ≠ j ∧ s ≠ i ∧ hget h' j = some (.grow ver e sz cs) ∧ cs.all V.free1 = true ∧ hget h' s = some (.cells e3 (pre ++ .gsl j sz 0 n lo ex ver :: post)) ∧
    pre.all (V.refs fun k => !Nat.beq k j) = true ∧ post.all (V.refs fun k => !Nat.beq k j) = true ∧ v.refs (fun k => !Nat.beq k j) = true ∧
    (∀ k b, k ≠ j → k ≠ s → hget h' k = some b → b.refs (fun k => !Nat.beq k j) = true) ∧
    K v (((h'.set j none).set i (some (.grow (m + 1 + ver) e sz cs))).set s (some (.cells e3 (pre ++ .gsl i sz 0 n lo ex (m + 1 + ver) :: post))))

theorem Ret.move {φ0 : Phi} {μ0 : Mu} {B : Nat} {w0 w' : World} {h0 : Heap} (r0 : Rel φ0 μ0 B h0 w0) {K : V → Heap → Prop} {en : Ending} (h : Ret φ0 μ0 B w0 (fun v h' => Moved h0 v h' K) en w') : Ret φ0 μ0 B w0 K en w' := by
  obtain ⟨v, h', φ, μ, cv, rfl, ⟨i, j, s, m, m0, ver, sz, n, lo, ex, e, e1, e2, e3, s0, s1, cs0, cs1, cs, pre, post, hi0, hi, hj0, hij, hsj, hsi, hj, hfree, hs, hpre, hpost, hvr, hoth, hK⟩, hv, r, hx, hf⟩ := h
  obtain ⟨bi, xi, hmi, hbi0, ci, hbi1, hbi2, hbi3, hbi4, hbi5⟩ := r.blk i _ hi
  obtain ⟨bj, xj, hmj, hbj0, c, hbj1, hbj2, hbj3, hbj4, hbj5⟩ := r.blk j _ hj
  obtain ⟨bs, xs, hms, hbs0, c3, hbs1, hbs2, hbs3, hbs4⟩ := r.blk s _ hs
  subst hbi0 hbj0 hbs0
  let μa : Mu := fun k => if k = j then none else μ k
  let μ2 : Mu := fun k => if k = i then some (bj, some (m + 1 + ver)) else if k = j then none else μ k
  have hle : μa.le μ2 := Mu.le_of_add hmi (by omega)
  have hp : ∀ k, (!Nat.beq k j) = true → μa k = μ k := fun k hk => by
    simp only [μa]
    rw [if_neg]
    rintro rfl
    rw [Nat.beq_refl] at hk; cases hk
  have fwd : ∀ {v : V} {c : Value}, Rv φ μ v c → v.refs (fun k => !Nat.beq k j) = true → Rv φ μ2 v c := fun h1 h2 => (refs_rv hp h1 h2).mono φ.le_refl hle
  have hμ2i : μ2 i = some (bj, some (m + 1 + ver)) := by simp only [μ2, if_true]
  have hμ2 : ∀ k, k ≠ i → k ≠ j → μ2 k = μ k := fun k h1 h2 => by simp only [μ2]; rw [if_neg h1, if_neg h2]
  have hμ2j : μ2 j = none := by simp only [μ2]; rw [if_neg (Ne.symm hij), if_true]
  have hil : i < h'.length := hget_lt hi
  have hjl : j < h'.length := hget_lt hj
  have hsl : s < h'.length := hget_lt hs
  have hcase : ∀ k x, μ2 k = some x → (k = i ∧ x = (bj, some (m + 1 + ver))) ∨ (k ≠ i ∧ k ≠ j ∧ μ k = some x) := fun k x hk => by
    by_cases h1 : k = i
    · subst h1; rw [hμ2i] at hk; exact .inl ⟨rfl, (Option.some.inj hk).symm⟩
    · by_cases h2 : k = j
      · subst h2; rw [hμ2j] at hk; cases hk
      · exact .inr ⟨h1, h2, (hμ2 k h1 h2) ▸ hk⟩
  have hgsl : ∀ {cv : Value}, Rv φ μ (.gsl j sz 0 n lo ex ver) cv → Rv φ μ2 (.gsl i sz 0 n lo ex (m + 1 + ver)) cv := fun h1 => by
    cases h1 with
    | gsl _ _ _ _ _ _ _ _ b m' cc a g1 g2 g3 g4 g5 g6 =>
      rw [hmj] at g1
      simp only [Option.some.injEq, Prod.mk.injEq] at g1
      obtain ⟨rfl, rfl⟩ := g1
      exact .gsl _ _ _ _ _ _ _ _ bj _ cc a hμ2i (Nat.le_refl _) g3 g4 g5 (fun _ => g6 rfl)
  refine ⟨v, _, φ, μ2, cv, rfl, hK, fwd hv hvr, ⟨r.glob, r.cell, r.size, fun k1 k2 b x y h1 h2 => ?_, fun k b x hk => ?_, fun k kb hk => ?_⟩, ⟨hx.phi, fun k x hk => ?_, fun k b x hk => ?_, hx.cells⟩, hf⟩
  · rcases hcase k1 _ h1 with ⟨g1, g2⟩ | ⟨g1, g2, g3⟩ <;> rcases hcase k2 _ h2 with ⟨q1, q2⟩ | ⟨q1, q2, q3⟩
    · omega
    · simp only [Prod.mk.injEq] at g2
      have := r.inj _ _ _ _ _ hmj (g2.1 ▸ q3)
      omega
    · simp only [Prod.mk.injEq] at q2
      have := r.inj _ _ _ _ _ hmj (q2.1 ▸ g3)
      omega
    · exact r.inj _ _ _ _ _ g3 q3
  · simp only [List.length_set]
    rcases hcase k _ hk with ⟨g1, g2⟩ | ⟨g1, g2, g3⟩
    · simp only [Prod.mk.injEq] at g2
      have := r.dom j _ _ hmj
      exact ⟨by omega, by rw [g2.1]; exact this.2⟩
    · exact r.dom k _ _ g3
  · rw [hget_set] at hk
    split at hk
    · rename_i hh
      obtain ⟨rfl, _⟩ := hh
      simp only [Option.some.injEq] at hk
      subst hk
      have hl : (pre ++ V.gsl i sz 0 n lo ex (m + 1 + ver) :: post).length = (pre ++ V.gsl j sz 0 n lo ex ver :: post).length := by simp
      refine ⟨bs, none, (hμ2 s hsi hsj).trans hms, rfl, c3, hbs1, by rw [hbs2, hl], fun t ht => ?_, hbs4⟩
      rw [hl] at ht
      have h9 := hbs3 t ht
      rcases Nat.lt_trichotomy t pre.length with h1 | h1 | h1
      · rw [List.getD_eq_getElem?_getD, List.getElem?_append_left h1, ← List.getD_eq_getElem?_getD] at h9 ⊢
        exact fwd h9 (all_getD hpre h1)
      · subst h1
        rw [List.getD_eq_getElem?_getD, List.getElem?_append_right (Nat.le_refl _), Nat.sub_self] at h9 ⊢
        exact hgsl h9
      · obtain ⟨q, hq⟩ : ∃ q, t = pre.length + (q + 1) := ⟨t - pre.length - 1, by omega⟩
        subst hq
        rw [List.getD_eq_getElem?_getD, List.getElem?_append_right (by omega), show pre.length + (q + 1) - pre.length = q + 1 by omega, List.getElem?_cons_succ, ← List.getD_eq_getElem?_getD] at h9 ⊢
        refine fwd h9 (all_getD hpost ?_)
        simp at ht; omega
    · rename_i hns
      rw [hget_set] at hk
      split at hk
      · rename_i hh
        obtain ⟨rfl, _⟩ := hh
        simp only [Option.some.injEq] at hk
        subst hk
        exact ⟨bj, some (m + 1 + ver), hμ2i, rfl, c, hbj1, hbj2, hbj3, fun t ht => free1_rv (hbj4 t ht) (all_getD hfree ht) _, hbj5⟩
      · rename_i hni
        rw [hget_set] at hk
        split at hk
        · cases hk
        · rename_i hnj
          have hkl := hget_lt hk
          have k1 : k ≠ i := fun e => hni ⟨e.symm, by simp; omega⟩
          have k2 : k ≠ j := fun e => hnj ⟨e.symm, by omega⟩
          have k3 : k ≠ s := fun e => hns ⟨e.symm, by simp; omega⟩
          obtain ⟨b, x, g1, g2⟩ := r.blk k kb hk
          exact ⟨b, x, (hμ2 k k1 k2).trans g1, (refs_blk hp g2 (hoth k kb k2 k3 hk)).mono φ.le_refl hle rfl (fun _ _ h => h)⟩
  · have hkl := (r0.dom k x.1 x.2 hk).1
    have k2 : k ≠ j := by omega
    by_cases k1 : k = i
    · subst k1
      obtain ⟨b00, x00, g1, g2, _⟩ := r0.blk k _ hi0
      rw [hk] at g1
      simp only [Option.some.injEq] at g1
      subst g1
      have h1 := hx.mu k _ hk
      rcases h1 with h1 | ⟨q, b', q', h1, h2, h3⟩
      · rw [hmi] at h1
        simp only [Option.some.injEq, Prod.mk.injEq] at h1
        exact .inr ⟨m, bj, m + 1 + ver, h1.2.symm ▸ rfl, hμ2i, by omega⟩
      · rw [hmi] at h2
        simp only [Option.some.injEq, Prod.mk.injEq] at h2
        exact .inr ⟨q, bj, m + 1 + ver, h1, hμ2i, by omega⟩
    · rcases hx.mu k x hk with h1 | ⟨q, b', q', h1, h2, h3⟩
      · exact .inl ((hμ2 k k1 k2).trans h1)
      · exact .inr ⟨q, b', q', h1, (hμ2 k k1 k2).trans h2, h3⟩
  · rcases hcase k _ hk with ⟨g1, g2⟩ | ⟨g1, g2, g3⟩
    · simp only [Prod.mk.injEq] at g2
      rcases hx.fresh j _ _ hmj with ⟨y, hy⟩ | hy
      · have := (r0.dom j _ _ hy).1; omega
      · exact .inr (g2.1 ▸ hy)
    · exact hx.fresh k b x g3
theorem Sem.move {P : Program} {g : FuncId} {args : List V} {h : Heap} {K : V → Heap → Prop} (k : Sem P g args h fun v h' => K v h' ∨ Moved h v h' K) : Sem P g args h K :=
  ⟨fun φ μ B w cargs hB r ha => (k.run φ μ B w cargs hB r ha).mono fun e w' ⟨v, h', φ', μ', cv, e1, hg, hv, rest⟩ => by
    rcases hg with h1 | h1
    · exact ⟨v, h', φ', μ', cv, e1, h1, hv, rest⟩
    · exact Ret.move r ⟨v, h', φ', μ', cv, e1, h1, hv, rest⟩⟩
/-- An append to a slice whose capacity is used up. -/
theorem apNew {P : Program} {T : Nat → Option TI} {md : Bool} {ev : Operand → V} {hg : Nat → Option Blk} {nid : Nat} {c : Call} {t xt : Nat} {x : V} {ti xi ei : TI} {e id sz o n lo ver e0 s0 : Nat} {cs : List V} {el : El}
    (hc : c.callee = .builtin .append) (ht : c.argTypes.toList = [t, xt]) (ha : c.args.toList.map ev = [.gsl id sz o n lo true ver, x]) (hT : T t = some ti) (hk : ti.k = .slice e) (hei : T e = some ei) (hxi : T xt = some xi) (hxk : slcK xi.k = true)
    (hrd : rdE hg ei.size x = some el) (hn : el.n ≠ 0) (hg' : hg id = some (.grow ver e0 s0 cs)) (hlo : lo < n + el.n) (hsz : sz = ei.size) (hcs : o + n * ei.size ≤ cs.length) (hok : el.ok = true) (hfit : fitsB ei (n + el.n) = true) :
    opF P T md ev hg nid (.call c) = some ⟨true, .gsl nid ei.size 0 (n + el.n) (n + el.n) false 0, [(nid, .grow 0 e ei.size ((cs.drop o).take (n * ei.size) ++ el.vs))], nid :: ([id] ++ el.acc), 1⟩ := by
  obtain ⟨callee, args, ats⟩ := c
  simp only at hc ht ha
  subst hc
  simp only [opF, ht, ha]
  have h1 : appendF T md t xt (.gsl id sz o n lo true ver) x hg nid = appendG T md t xt (.gsl id sz o n lo true ver) x hg nid := rfl
  rw [h1]
  have b0 : Nat.beq el.n 0 = false := by
    cases hb : Nat.beq el.n 0 with
    | false => rfl
    | true => exact absurd (Nat.eq_of_beq_eq_true hb) hn
  have b1 : Nat.ble (n + el.n) lo = false := by
    cases hb : Nat.ble (n + el.n) lo with
    | false => rfl
    | true => have := Nat.le_of_ble_eq_true hb; omega
  have b2 : Nat.ble (o + n * ei.size) cs.length = true := Nat.ble_eq_true_of_le hcs
  subst hsz
  simp only [appendG, hT, hxi, hk, hei, hrd, hxk, b0, hg', b1, b2, cond_true, cond_false, Nat.beq_refl, Bool.true_and, newG, hok, hfit]
/-- A slice of a slice whose block may grow. -/
theorem slGsl {P : Program} {T : Nat → Option TI} {md : Bool} {ev : Operand → V} {hg : Nat → Option Blk} {nid t : Nat} {x : Operand} {lo hi : Option Operand} {ti ei : TI} {e id sz o n clo ver : Nat} {ex : Bool} {l m : Int}
    (hx : ev x = .gsl id sz o n clo ex ver) (hT : T t = some ti) (hk : ti.k = .slice e) (hei : T e = some ei) (hsz : sz = ei.size) (hlo : bndV 0 (lo.map ev) = some l) (hhi : bndV n (hi.map ev) = some m) (h0 : 0 ≤ l) (h1 : l ≤ m) (h2 : m ≤ clo) (h3 : l < clo ∨ l = 0) :
    opF P T md ev hg nid (.slice t x lo hi none) = some ⟨true, .gsl id sz (o + l.toNat * sz) (m.toNat - l.toNat) (clo - l.toNat) ex ver, [], [], 0⟩ := by
  have hb : (Nat.blt l.toNat clo || Nat.beq l.toNat 0) = true := by
    rcases h3 with h3 | h3
    · rw [show Nat.blt l.toNat clo = true by rw [Nat.blt_eq]; omega]; rfl
    · subst h3; rw [Bool.or_eq_true]; right; rfl
  subst hsz
  simp only [opF, pureO, sliceO, hT, hx, hk, hei, hlo, hhi, Option.map_none, beq_self_eq_true, Bool.not_true, cond_false, hb, cond_true, decide_eq_true h0, decide_eq_true h1, decide_eq_true h2, Bool.and_self]
/-- The end of it, when nothing is left. -/
theorem slEnd {P : Program} {T : Nat → Option TI} {md : Bool} {ev : Operand → V} {hg : Nat → Option Blk} {nid t : Nat} {x : Operand} {lo hi : Option Operand} {ti ei : TI} {e id sz o n clo ver : Nat} {l m : Int}
    (hx : ev x = .gsl id sz o n clo true ver) (hT : T t = some ti) (hk : ti.k = .slice e) (hei : T e = some ei) (hsz : sz = ei.size) (hlo : bndV 0 (lo.map ev) = some l) (hhi : bndV n (hi.map ev) = some m) (h1 : l = m) (h2 : m = clo) (h3 : 0 < clo) :
    opF P T md ev hg nid (.slice t x lo hi none) = some ⟨true, .gsl id sz o 0 0 true ver, [], [], 0⟩ := by
  have hb : (Nat.blt l.toNat clo || Nat.beq l.toNat 0) = false := by
    rw [Bool.or_eq_false_iff]
    constructor
    · cases hq : Nat.blt l.toNat clo with
      | false => rfl
      | true => rw [Nat.blt_eq] at hq; omega
    · cases hq : Nat.beq l.toNat 0 with
      | false => rfl
      | true => have := Nat.eq_of_beq_eq_true hq; omega
  subst hsz
  simp only [opF, pureO, sliceO, hT, hx, hk, hei, hlo, hhi, Option.map_none, beq_self_eq_true, Bool.not_true, cond_false, hb, cond_true, decide_eq_true (show 0 ≤ l by omega), decide_eq_true (show l ≤ m by omega), decide_eq_true (show m ≤ clo by omega), Bool.and_self]
/-- An append of so many zeros to nothing. -/
theorem apZeros {P : Program} {T : Nat → Option TI} {md : Bool} {ev : Operand → V} {hg : Nat → Option Blk} {nid : Nat} {c : Call} {t xt : Nat} {kk k' : IntKind} {n : Int} {ti xi ei : TI} {e : Nat} {zs : List V}
    (hc : c.callee = .builtin .append) (ht : c.argTypes.toList = [t, xt]) (ha : c.args.toList.map ev = [.nils, .int k' n]) (hT : T t = some ti) (hk : ti.k = .slice e) (hei : T e = some ei) (hxi : T xt = some xi) (hxk : xi.k = .int kk)
    (hz : cellsOf ei.zero = some zs) (hzl : zs.length = ei.size) (h0 : 0 < n) (hfit : fitsB ei (0 + n.toNat) = true) :
    opF P T md ev hg nid (.call c) = some ⟨true, .gsl nid ei.size 0 (0 + n.toNat) (0 + n.toNat) false 0, [(nid, .grow 0 e ei.size ([] ++ zerosV zs n.toNat))], [nid], 1⟩ := by
  obtain ⟨callee, args, ats⟩ := c
  simp only at hc ht ha
  subst hc
  simp only [opF, ht, ha]
  have h1 : appendF T md t xt .nils (.int k' n) hg nid = appendZ T t xt n nid := rfl
  rw [h1]
  simp only [appendZ, hT, hxi, hk, hxk, hei, hz, decide_eq_true h0, cond_true, newG, hzl, Nat.beq_refl, Bool.true_and, hfit, List.append_nil]
end Go.Cx
