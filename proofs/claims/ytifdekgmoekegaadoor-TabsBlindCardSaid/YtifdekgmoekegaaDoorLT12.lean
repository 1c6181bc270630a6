/- What functions of this seat compute, each for every argument of the shapes that are named; no condition beside the stated ones. -/
import Derived.Test.YtifdekgmoekegaaDoorLT11
namespace Go.Cx
open Go.Proofs
set_option maxRecDepth 100000
set_option maxHeartbeats 10000000
/-- Two that look alike. -/
structure Bl (t u : Tb) : Prop where
  gt : t.good
  gu : u.good
  lab : t.lab = u.lab
  cols : t.cols = u.cols
  bt : t.base = 0
  bu : u.base = 0
  l01 : t.lab = 0 ∨ t.lab = 1
  low : t.lab = 0 → u = t
theorem Bl.refl {t : Tb} (h : t.good) (hb : t.base = 0) (hl : t.lab = 0 ∨ t.lab = 1) : Bl t t := ⟨h, h, rfl, rfl, hb, hb, hl, fun _ => rfl⟩
theorem jn01 (x y : Int) : jn2 x y = 0 ∨ jn2 x y = 1 := by unfold jn2; split <;> omega
theorem by01 (a : Ac) : a.by = 0 ∨ a.by = 1 := by unfold Ac.by; split <;> omega
theorem does_base (a : Ac) (t : Tb) : (a.does t).base = t.base := by
  unfold Ac.does
  repeat' split
  all_goals rfl
theorem does_l01 (a : Ac) (t : Tb) (hb : t.base = 0) (hl : t.lab = 0 ∨ t.lab = 1) : (a.does t).lab = 0 ∨ (a.does t).lab = 1 := by
  unfold Ac.does
  repeat' split
  all_goals first | exact jn01 _ _ | exact .inl hb | exact hl
theorem Bl.does {a : Ac} {t u : Tb} (h : Bl t u) (b : Ac) (h7 : a.what % 9 = 7 → u = t) (hb : b = a ∨ (a.high = true ∧ a.what % 9 < 5 ∧ b = ⟨a.what, a.high, (b.l), a.cols⟩)) : Bl (a.does t) (b.does u) := by
  have h1 := does_base a t
  have h2 := does_base b u
  have h3 := does_l01 a t h.bt h.l01
  have g1 := does_good a h.gt
  have g2 := does_good b h.gu
  by_cases hut : u = t ∧ b = a
  · obtain ⟨rfl, rfl⟩ := hut
    exact Bl.refl g1 (h1.trans h.bt) h3
  have hw : b.what = a.what := by
    rcases hb with rfl | ⟨_, _, e⟩
    · rfl
    · rw [e]
  have hby : b.by = a.by := by
    rcases hb with rfl | ⟨_, _, e⟩
    · rfl
    · rw [e]; rfl
  have hco : b.cols = a.cols := by
    rcases hb with rfl | ⟨_, _, e⟩
    · rfl
    · rw [e]
  have key : (a.does t).lab = (b.does u).lab ∧ (a.does t).cols = (b.does u).cols ∧ ((a.does t).lab = 0 → b.does u = a.does t) := by
    have h12 : t.lab = 0 → a.by = 1 ∨ b = a := fun _ => by
      rcases hb with e | ⟨e, _, _⟩
      · exact .inr e
      · exact .inl (by unfold Ac.by; rw [if_pos e])
    have jz : ∀ x y : Int, jn2 x y = 0 → (x = 0 ∨ x = 1) → (y = 0 ∨ y = 1) → x = 0 ∧ y = 0 := fun x y hj hx hy => by unfold jn2 at hj; split at hj <;> omega
    unfold Ac.does
    rw [hw, hby, hco]
    split
    · refine ⟨by simp only [Tb.clear, h.lab], by simp only [Tb.clear, h.cols], fun h0 => ?_⟩
      obtain ⟨k1, k2⟩ := jz _ _ h0 h.l01 (by01 a)
      rcases h12 k1 with e | e
      · omega
      · exact absurd ⟨h.low k1, e⟩ hut
    split
    · refine ⟨by simp only [Tb.none, h.bt, h.bu], by simp only [Tb.none, h.cols], fun _ => by simp only [Tb.none, h.bt, h.bu, h.cols]⟩
    split
    · refine ⟨by simp only [Tb.raise, h.lab], by simp only [Tb.raise, h.cols], fun h0 => ?_⟩
      obtain ⟨k1, k2⟩ := jz _ _ h0 h.l01 (by01 a)
      rw [h.low k1]
    split
    · rename_i e7
      rw [h7 e7]
      exact ⟨rfl, rfl, fun _ => rfl⟩
    split
    · refine ⟨h.lab, rfl, fun h0 => ?_⟩
      rw [h.low h0]
    · refine ⟨by simp only [Tb.put, h.lab], by simp only [Tb.put, h.cols], fun h0 => ?_⟩
      obtain ⟨k1, k2⟩ := jz _ _ h0 h.l01 (by01 a)
      rcases h12 k1 with e | e
      · omega
      · exact absurd ⟨h.low k1, e⟩ hut
  exact ⟨g1, g2, key.1, key.2.1, h1.trans h.bt, h2.trans h.bu, h3, key.2.2⟩
theorem Bl.norm {t u : Tb} (h : Bl t u) : ∃ u2, tB u2 = tB u ∧ Bl t u2 ∧ (tB u2 = tB t → u2 = t) := by
  by_cases hs : tB u = tB t
  · exact ⟨t, hs.symm, Bl.refl h.gt h.bt h.l01, fun _ => rfl⟩
  · exact ⟨u, rfl, h, fun e => absurd e hs⟩
theorem same_v (t u : Tb) (h : (!((t.w 0 : Int) == u.w 0 && ((t.w 1 : Int) == u.w 1 && ((t.w 2 : Int) == u.w 2 && ((t.w 3 : Int) == u.w 3 && ((t.w 4 : Int) == u.w 4 && ((t.w 5 : Int) == u.w 5 && ((t.w 6 : Int) == u.w 6 && ((t.w 7 : Int) == u.w 7 && true))))))) && (t.cols == u.cols && (t.lab == u.lab && (t.base == u.base && true))))) = false) : tB u = tB t := by
  simp only [Bool.not_eq_false', Bool.and_eq_true, beq_iff_eq, and_true] at h
  obtain ⟨⟨h0, h1, h2, h3, h4, h5, h6, h7⟩, h8, h9, h10⟩ := h
  unfold tB Tb.cs
  rw [h0, h1, h2, h3, h4, h5, h6, h7, h8, h9, h10]
def envB (n : Int) (l : List Ac) (o : List Int) (i : Int) : List V := .int .u16 n :: .psl 4 (actsV l) .any :: .psl 1 (lV o) .any :: .undef :: .undef :: .undef :: .bool false :: .ptr 0 0 :: .ptr 1 0 :: .int .i64 i :: List.replicate 77 .undef
theorem blind_sem (n : Int) (hn : 0 ≤ n ∧ n < 65536) (l : List Ac) (hl : ∀ a ∈ l, a.ok) (o : List Int) (ho : ∀ x ∈ o, -32768 ≤ x ∧ x < 32768) (hol : o.length ≤ maxLen) :
    Sem Tryd.prog 4 [.int .u16 n, .psl 4 (actsV l) .any, .psl 1 (lV o) .any] [] fun v _ => v = .bool true := by
  have hal := actsV_len l
  have n1 := rem600 n hn
  refine Sem.of_body tysOk md0 Tryd.func4 rfl rfl ?_
  refine works.sem _ ?_
  refine BCase.no rfl ?_
  refine (new_fn _ 0).sem _ ?_
  refine (new_fn _ 0).sem _ ?_
  refine LoopP.inv (md := md0) (fun k env h => ∃ (i : Nat) (t u : Tb), k = l.length - i ∧ i ≤ l.length ∧ i ≤ 40 ∧ Bl t u ∧ (tB u = tB t → u = t) ∧ env = envB n l o i ∧ h = [tB t, tB u]) l.length ⟨envB n l o 0, _, .same (by repeat (first | exact trivial | refine ⟨.inl rfl, ?_⟩ | refine ⟨.inr rfl, ?_⟩)) rfl, 0, _, _, rfl, Nat.zero_le _, Nat.zero_le _, Bl.refl (resize_good (zero_good 0) _) rfl (.inl rfl), fun _ => rfl, rfl, rfl⟩ ?_
  rintro k _ _ ⟨i, t, u, rfl, hil, hi40, hB, hnrm, rfl, rfl⟩
  have ht := hB.gt
  refine ⟨fun h => ?_, fun h => ?_⟩
  · have hi' : i < l.length := by have := of_decide_eq_true h; omega
    repeat (first | refine BCase.yes rfl ?_ | refine BCase.no rfl ?_)
    refine ⟨fun h40 => ?_, fun h40 => ?_⟩
    · have h40' : i < 40 := by have := of_decide_eq_true h40; omega
      obtain ⟨a, ha⟩ : ∃ a, l[i]? = some a := ⟨_, List.getElem?_eq_getElem hi'⟩
      have hao := hl a (List.mem_of_getElem? ha)
      have em : a.what.tmod 9 = a.what % 9 := Int.tmod_eq_emod_of_nonneg hao.w0
      refine DrawP.intro tysOk mixed false ?_
      refine ⟨a.cs, ⟨by omega, actsV_get ha⟩, ?_⟩
      refine ⟨a.cs, ⟨by omega, actsV_get ha⟩, ?_⟩
      refine ⟨by kernel_rfl, ?_⟩
      refine ⟨fun h7 => ?_, fun h7 => ?_⟩
      · repeat (first | refine BCase.yes rfl ?_ | refine BCase.no rfl ?_)
        refine ⟨fun hne => ?_, fun hne => ?_⟩
        · rfl
        · have h7' : a.what % 9 = 7 → u = t := fun _ => hnrm (same_v t u hne)
          repeat (first | refine BCase.yes rfl ?_ | refine BCase.no rfl ?_)
          refine ⟨fun hh => ?_, fun hh => ?_⟩
          · repeat (first | refine BCase.yes rfl ?_ | refine BCase.no rfl ?_)
            refine ⟨fun h5 => ?_, fun h5 => ?_⟩
            · repeat (first | refine BCase.yes rfl ?_ | refine BCase.no rfl ?_)
              refine (does_fn a hao t ht.ok).sem _ ?_
              refine (does_fn ⟨a.what, a.high, o, a.cols⟩ ⟨hao.w0, hao.w1, hao.c0, hao.c1, ho, hol⟩ u hB.gu.ok).sem _ ?_
              have hB' := hB.does ⟨a.what, a.high, o, a.cols⟩ h7' (.inr ⟨hh, by rw [em] at h5; exact of_decide_eq_true h5, rfl⟩)
              generalize a.does t = t1 at hB' ⊢
              generalize Ac.does ⟨a.what, a.high, o, a.cols⟩ u = u1 at hB' ⊢
              refine DrawP.intro tysOk mixed false ?_
              refine ⟨_, (label_fn t1).callT _ _, ?_⟩
              refine ⟨_, (label_fn u1).callT _ _, ?_⟩
              refine BCase.no (by rw [hB'.lab]; simp) ?_
              repeat (first | refine BCase.yes rfl ?_ | refine BCase.no rfl ?_)
              refine ⟨_, (cols_fn t1).callT _ _, ?_⟩
              repeat (first | refine BCase.yes rfl ?_ | refine BCase.no rfl ?_)
              refine ⟨_, (cols_fn u1).callT _ _, ?_⟩
              repeat (first | refine BCase.yes rfl ?_ | refine BCase.no rfl ?_)
              refine BCase.no (by rw [hB'.cols]; simp) ?_
              repeat (first | refine BCase.yes rfl ?_ | refine BCase.no rfl ?_)
              refine ⟨_, (label_fn t1).callT _ _, ?_⟩
              repeat (first | refine BCase.yes rfl ?_ | refine BCase.no rfl ?_)
              refine ⟨fun hl0 => ?_, fun hl0 => ?_⟩
              · repeat (first | refine BCase.yes rfl ?_ | refine BCase.no rfl ?_)
                have hlz : t1.lab = 0 := by simpa using hl0
                have hut := hB'.low hlz
                subst hut
                refine ⟨by kernel_rfl, ?_⟩
                refine BCase.no (by simp) ?_
                obtain ⟨u2, hu2, hB2, hn2⟩ := hB'.norm
                refine ⟨l.length - (i + 1), envB n l o (i + 1 : Nat), [tB u1, tB u1], by omega, .cut ?_ (by show 2 ≤ 2; omega) rfl rfl, i + 1, u1, u2, rfl, hi', h40', hB2, hn2, rfl, by rw [hu2]⟩
                refine ⟨.inl rfl, .inl rfl, .inl rfl, .inl rfl, .inl rfl, .inl rfl, .inl rfl, .inl rfl, .inl rfl, .inl ?_, ?_⟩
                · exact congrArg (V.int .i64) (wrs i 1 (by omega))
                · repeat (first | exact trivial | refine ⟨.inl rfl, ?_⟩ | refine ⟨.inr rfl, ?_⟩)
              · repeat (first | refine BCase.yes rfl ?_ | refine BCase.no rfl ?_)
                refine ⟨by kernel_rfl, ?_⟩
                repeat (first | refine BCase.yes rfl ?_ | refine BCase.no rfl ?_)
                obtain ⟨u2, hu2, hB2, hn2⟩ := hB'.norm
                refine ⟨l.length - (i + 1), envB n l o (i + 1 : Nat), [tB t1, tB u1], by omega, .cut ?_ (by show 2 ≤ 2; omega) rfl rfl, i + 1, t1, u2, rfl, hi', h40', hB2, hn2, rfl, by rw [hu2]⟩
                refine ⟨.inl rfl, .inl rfl, .inl rfl, .inl rfl, .inl rfl, .inl rfl, .inl rfl, .inl rfl, .inl rfl, .inl ?_, ?_⟩
                · exact congrArg (V.int .i64) (wrs i 1 (by omega))
                · repeat (first | exact trivial | refine ⟨.inl rfl, ?_⟩ | refine ⟨.inr rfl, ?_⟩)
            · repeat (first | refine BCase.yes rfl ?_ | refine BCase.no rfl ?_)
              refine (does_fn a hao t ht.ok).sem _ ?_
              refine (does_fn a hao u hB.gu.ok).sem _ ?_
              have hB' := hB.does a h7' (.inl rfl)
              generalize a.does t = t1 at hB' ⊢
              generalize Ac.does a u = u1 at hB' ⊢
              refine DrawP.intro tysOk mixed false ?_
              refine ⟨_, (label_fn t1).callT _ _, ?_⟩
              refine ⟨_, (label_fn u1).callT _ _, ?_⟩
              refine BCase.no (by rw [hB'.lab]; simp) ?_
              repeat (first | refine BCase.yes rfl ?_ | refine BCase.no rfl ?_)
              refine ⟨_, (cols_fn t1).callT _ _, ?_⟩
              repeat (first | refine BCase.yes rfl ?_ | refine BCase.no rfl ?_)
              refine ⟨_, (cols_fn u1).callT _ _, ?_⟩
              repeat (first | refine BCase.yes rfl ?_ | refine BCase.no rfl ?_)
              refine BCase.no (by rw [hB'.cols]; simp) ?_
              repeat (first | refine BCase.yes rfl ?_ | refine BCase.no rfl ?_)
              refine ⟨_, (label_fn t1).callT _ _, ?_⟩
              repeat (first | refine BCase.yes rfl ?_ | refine BCase.no rfl ?_)
              refine ⟨fun hl0 => ?_, fun hl0 => ?_⟩
              · repeat (first | refine BCase.yes rfl ?_ | refine BCase.no rfl ?_)
                have hlz : t1.lab = 0 := by simpa using hl0
                have hut := hB'.low hlz
                subst hut
                refine ⟨by kernel_rfl, ?_⟩
                refine BCase.no (by simp) ?_
                obtain ⟨u2, hu2, hB2, hn2⟩ := hB'.norm
                refine ⟨l.length - (i + 1), envB n l o (i + 1 : Nat), [tB u1, tB u1], by omega, .cut ?_ (by show 2 ≤ 2; omega) rfl rfl, i + 1, u1, u2, rfl, hi', h40', hB2, hn2, rfl, by rw [hu2]⟩
                refine ⟨.inl rfl, .inl rfl, .inl rfl, .inl rfl, .inl rfl, .inl rfl, .inl rfl, .inl rfl, .inl rfl, .inl ?_, ?_⟩
                · exact congrArg (V.int .i64) (wrs i 1 (by omega))
                · repeat (first | exact trivial | refine ⟨.inl rfl, ?_⟩ | refine ⟨.inr rfl, ?_⟩)
              · repeat (first | refine BCase.yes rfl ?_ | refine BCase.no rfl ?_)
                refine ⟨by kernel_rfl, ?_⟩
                repeat (first | refine BCase.yes rfl ?_ | refine BCase.no rfl ?_)
                obtain ⟨u2, hu2, hB2, hn2⟩ := hB'.norm
                refine ⟨l.length - (i + 1), envB n l o (i + 1 : Nat), [tB t1, tB u1], by omega, .cut ?_ (by show 2 ≤ 2; omega) rfl rfl, i + 1, t1, u2, rfl, hi', h40', hB2, hn2, rfl, by rw [hu2]⟩
                refine ⟨.inl rfl, .inl rfl, .inl rfl, .inl rfl, .inl rfl, .inl rfl, .inl rfl, .inl rfl, .inl rfl, .inl ?_, ?_⟩
                · exact congrArg (V.int .i64) (wrs i 1 (by omega))
                · repeat (first | exact trivial | refine ⟨.inl rfl, ?_⟩ | refine ⟨.inr rfl, ?_⟩)
          · repeat (first | refine BCase.yes rfl ?_ | refine BCase.no rfl ?_)
            refine (does_fn a hao t ht.ok).sem _ ?_
            refine (does_fn a hao u hB.gu.ok).sem _ ?_
            have hB' := hB.does a h7' (.inl rfl)
            generalize a.does t = t1 at hB' ⊢
            generalize Ac.does a u = u1 at hB' ⊢
            refine DrawP.intro tysOk mixed false ?_
            refine ⟨_, (label_fn t1).callT _ _, ?_⟩
            refine ⟨_, (label_fn u1).callT _ _, ?_⟩
            refine BCase.no (by rw [hB'.lab]; simp) ?_
            repeat (first | refine BCase.yes rfl ?_ | refine BCase.no rfl ?_)
            refine ⟨_, (cols_fn t1).callT _ _, ?_⟩
            repeat (first | refine BCase.yes rfl ?_ | refine BCase.no rfl ?_)
            refine ⟨_, (cols_fn u1).callT _ _, ?_⟩
            repeat (first | refine BCase.yes rfl ?_ | refine BCase.no rfl ?_)
            refine BCase.no (by rw [hB'.cols]; simp) ?_
            repeat (first | refine BCase.yes rfl ?_ | refine BCase.no rfl ?_)
            refine ⟨_, (label_fn t1).callT _ _, ?_⟩
            repeat (first | refine BCase.yes rfl ?_ | refine BCase.no rfl ?_)
            refine ⟨fun hl0 => ?_, fun hl0 => ?_⟩
            · repeat (first | refine BCase.yes rfl ?_ | refine BCase.no rfl ?_)
              have hlz : t1.lab = 0 := by simpa using hl0
              have hut := hB'.low hlz
              subst hut
              refine ⟨by kernel_rfl, ?_⟩
              refine BCase.no (by simp) ?_
              obtain ⟨u2, hu2, hB2, hn2⟩ := hB'.norm
              refine ⟨l.length - (i + 1), envB n l o (i + 1 : Nat), [tB u1, tB u1], by omega, .cut ?_ (by show 2 ≤ 2; omega) rfl rfl, i + 1, u1, u2, rfl, hi', h40', hB2, hn2, rfl, by rw [hu2]⟩
              refine ⟨.inl rfl, .inl rfl, .inl rfl, .inl rfl, .inl rfl, .inl rfl, .inl rfl, .inl rfl, .inl rfl, .inl ?_, ?_⟩
              · exact congrArg (V.int .i64) (wrs i 1 (by omega))
              · repeat (first | exact trivial | refine ⟨.inl rfl, ?_⟩ | refine ⟨.inr rfl, ?_⟩)
            · repeat (first | refine BCase.yes rfl ?_ | refine BCase.no rfl ?_)
              refine ⟨by kernel_rfl, ?_⟩
              repeat (first | refine BCase.yes rfl ?_ | refine BCase.no rfl ?_)
              obtain ⟨u2, hu2, hB2, hn2⟩ := hB'.norm
              refine ⟨l.length - (i + 1), envB n l o (i + 1 : Nat), [tB t1, tB u1], by omega, .cut ?_ (by show 2 ≤ 2; omega) rfl rfl, i + 1, t1, u2, rfl, hi', h40', hB2, hn2, rfl, by rw [hu2]⟩
              refine ⟨.inl rfl, .inl rfl, .inl rfl, .inl rfl, .inl rfl, .inl rfl, .inl rfl, .inl rfl, .inl rfl, .inl ?_, ?_⟩
              · exact congrArg (V.int .i64) (wrs i 1 (by omega))
              · repeat (first | exact trivial | refine ⟨.inl rfl, ?_⟩ | refine ⟨.inr rfl, ?_⟩)
      · have h7' : a.what % 9 = 7 → u = t := fun e => by rw [em, e] at h7; cases h7
        repeat (first | refine BCase.yes rfl ?_ | refine BCase.no rfl ?_)
        refine ⟨fun hh => ?_, fun hh => ?_⟩
        · repeat (first | refine BCase.yes rfl ?_ | refine BCase.no rfl ?_)
          refine ⟨fun h5 => ?_, fun h5 => ?_⟩
          · repeat (first | refine BCase.yes rfl ?_ | refine BCase.no rfl ?_)
            refine (does_fn a hao t ht.ok).sem _ ?_
            refine (does_fn ⟨a.what, a.high, o, a.cols⟩ ⟨hao.w0, hao.w1, hao.c0, hao.c1, ho, hol⟩ u hB.gu.ok).sem _ ?_
            have hB' := hB.does ⟨a.what, a.high, o, a.cols⟩ h7' (.inr ⟨hh, by rw [em] at h5; exact of_decide_eq_true h5, rfl⟩)
            generalize a.does t = t1 at hB' ⊢
            generalize Ac.does ⟨a.what, a.high, o, a.cols⟩ u = u1 at hB' ⊢
            refine DrawP.intro tysOk mixed false ?_
            refine ⟨_, (label_fn t1).callT _ _, ?_⟩
            refine ⟨_, (label_fn u1).callT _ _, ?_⟩
            refine BCase.no (by rw [hB'.lab]; simp) ?_
            repeat (first | refine BCase.yes rfl ?_ | refine BCase.no rfl ?_)
            refine ⟨_, (cols_fn t1).callT _ _, ?_⟩
            repeat (first | refine BCase.yes rfl ?_ | refine BCase.no rfl ?_)
            refine ⟨_, (cols_fn u1).callT _ _, ?_⟩
            repeat (first | refine BCase.yes rfl ?_ | refine BCase.no rfl ?_)
            refine BCase.no (by rw [hB'.cols]; simp) ?_
            repeat (first | refine BCase.yes rfl ?_ | refine BCase.no rfl ?_)
            refine ⟨_, (label_fn t1).callT _ _, ?_⟩
            repeat (first | refine BCase.yes rfl ?_ | refine BCase.no rfl ?_)
            refine ⟨fun hl0 => ?_, fun hl0 => ?_⟩
            · repeat (first | refine BCase.yes rfl ?_ | refine BCase.no rfl ?_)
              have hlz : t1.lab = 0 := by simpa using hl0
              have hut := hB'.low hlz
              subst hut
              refine ⟨by kernel_rfl, ?_⟩
              refine BCase.no (by simp) ?_
              obtain ⟨u2, hu2, hB2, hn2⟩ := hB'.norm
              refine ⟨l.length - (i + 1), envB n l o (i + 1 : Nat), [tB u1, tB u1], by omega, .cut ?_ (by show 2 ≤ 2; omega) rfl rfl, i + 1, u1, u2, rfl, hi', h40', hB2, hn2, rfl, by rw [hu2]⟩
              refine ⟨.inl rfl, .inl rfl, .inl rfl, .inl rfl, .inl rfl, .inl rfl, .inl rfl, .inl rfl, .inl rfl, .inl ?_, ?_⟩
              · exact congrArg (V.int .i64) (wrs i 1 (by omega))
              · repeat (first | exact trivial | refine ⟨.inl rfl, ?_⟩ | refine ⟨.inr rfl, ?_⟩)
            · repeat (first | refine BCase.yes rfl ?_ | refine BCase.no rfl ?_)
              refine ⟨by kernel_rfl, ?_⟩
              repeat (first | refine BCase.yes rfl ?_ | refine BCase.no rfl ?_)
              obtain ⟨u2, hu2, hB2, hn2⟩ := hB'.norm
              refine ⟨l.length - (i + 1), envB n l o (i + 1 : Nat), [tB t1, tB u1], by omega, .cut ?_ (by show 2 ≤ 2; omega) rfl rfl, i + 1, t1, u2, rfl, hi', h40', hB2, hn2, rfl, by rw [hu2]⟩
              refine ⟨.inl rfl, .inl rfl, .inl rfl, .inl rfl, .inl rfl, .inl rfl, .inl rfl, .inl rfl, .inl rfl, .inl ?_, ?_⟩
              · exact congrArg (V.int .i64) (wrs i 1 (by omega))
              · repeat (first | exact trivial | refine ⟨.inl rfl, ?_⟩ | refine ⟨.inr rfl, ?_⟩)
          · repeat (first | refine BCase.yes rfl ?_ | refine BCase.no rfl ?_)
            refine (does_fn a hao t ht.ok).sem _ ?_
            refine (does_fn a hao u hB.gu.ok).sem _ ?_
            have hB' := hB.does a h7' (.inl rfl)
            generalize a.does t = t1 at hB' ⊢
            generalize Ac.does a u = u1 at hB' ⊢
            refine DrawP.intro tysOk mixed false ?_
            refine ⟨_, (label_fn t1).callT _ _, ?_⟩
            refine ⟨_, (label_fn u1).callT _ _, ?_⟩
            refine BCase.no (by rw [hB'.lab]; simp) ?_
            repeat (first | refine BCase.yes rfl ?_ | refine BCase.no rfl ?_)
            refine ⟨_, (cols_fn t1).callT _ _, ?_⟩
            repeat (first | refine BCase.yes rfl ?_ | refine BCase.no rfl ?_)
            refine ⟨_, (cols_fn u1).callT _ _, ?_⟩
            repeat (first | refine BCase.yes rfl ?_ | refine BCase.no rfl ?_)
            refine BCase.no (by rw [hB'.cols]; simp) ?_
            repeat (first | refine BCase.yes rfl ?_ | refine BCase.no rfl ?_)
            refine ⟨_, (label_fn t1).callT _ _, ?_⟩
            repeat (first | refine BCase.yes rfl ?_ | refine BCase.no rfl ?_)
            refine ⟨fun hl0 => ?_, fun hl0 => ?_⟩
            · repeat (first | refine BCase.yes rfl ?_ | refine BCase.no rfl ?_)
              have hlz : t1.lab = 0 := by simpa using hl0
              have hut := hB'.low hlz
              subst hut
              refine ⟨by kernel_rfl, ?_⟩
              refine BCase.no (by simp) ?_
              obtain ⟨u2, hu2, hB2, hn2⟩ := hB'.norm
              refine ⟨l.length - (i + 1), envB n l o (i + 1 : Nat), [tB u1, tB u1], by omega, .cut ?_ (by show 2 ≤ 2; omega) rfl rfl, i + 1, u1, u2, rfl, hi', h40', hB2, hn2, rfl, by rw [hu2]⟩
              refine ⟨.inl rfl, .inl rfl, .inl rfl, .inl rfl, .inl rfl, .inl rfl, .inl rfl, .inl rfl, .inl rfl, .inl ?_, ?_⟩
              · exact congrArg (V.int .i64) (wrs i 1 (by omega))
              · repeat (first | exact trivial | refine ⟨.inl rfl, ?_⟩ | refine ⟨.inr rfl, ?_⟩)
            · repeat (first | refine BCase.yes rfl ?_ | refine BCase.no rfl ?_)
              refine ⟨by kernel_rfl, ?_⟩
              repeat (first | refine BCase.yes rfl ?_ | refine BCase.no rfl ?_)
              obtain ⟨u2, hu2, hB2, hn2⟩ := hB'.norm
              refine ⟨l.length - (i + 1), envB n l o (i + 1 : Nat), [tB t1, tB u1], by omega, .cut ?_ (by show 2 ≤ 2; omega) rfl rfl, i + 1, t1, u2, rfl, hi', h40', hB2, hn2, rfl, by rw [hu2]⟩
              refine ⟨.inl rfl, .inl rfl, .inl rfl, .inl rfl, .inl rfl, .inl rfl, .inl rfl, .inl rfl, .inl rfl, .inl ?_, ?_⟩
              · exact congrArg (V.int .i64) (wrs i 1 (by omega))
              · repeat (first | exact trivial | refine ⟨.inl rfl, ?_⟩ | refine ⟨.inr rfl, ?_⟩)
        · repeat (first | refine BCase.yes rfl ?_ | refine BCase.no rfl ?_)
          refine (does_fn a hao t ht.ok).sem _ ?_
          refine (does_fn a hao u hB.gu.ok).sem _ ?_
          have hB' := hB.does a h7' (.inl rfl)
          generalize a.does t = t1 at hB' ⊢
          generalize Ac.does a u = u1 at hB' ⊢
          refine DrawP.intro tysOk mixed false ?_
          refine ⟨_, (label_fn t1).callT _ _, ?_⟩
          refine ⟨_, (label_fn u1).callT _ _, ?_⟩
          refine BCase.no (by rw [hB'.lab]; simp) ?_
          repeat (first | refine BCase.yes rfl ?_ | refine BCase.no rfl ?_)
          refine ⟨_, (cols_fn t1).callT _ _, ?_⟩
          repeat (first | refine BCase.yes rfl ?_ | refine BCase.no rfl ?_)
          refine ⟨_, (cols_fn u1).callT _ _, ?_⟩
          repeat (first | refine BCase.yes rfl ?_ | refine BCase.no rfl ?_)
          refine BCase.no (by rw [hB'.cols]; simp) ?_
          repeat (first | refine BCase.yes rfl ?_ | refine BCase.no rfl ?_)
          refine ⟨_, (label_fn t1).callT _ _, ?_⟩
          repeat (first | refine BCase.yes rfl ?_ | refine BCase.no rfl ?_)
          refine ⟨fun hl0 => ?_, fun hl0 => ?_⟩
          · repeat (first | refine BCase.yes rfl ?_ | refine BCase.no rfl ?_)
            have hlz : t1.lab = 0 := by simpa using hl0
            have hut := hB'.low hlz
            subst hut
            refine ⟨by kernel_rfl, ?_⟩
            refine BCase.no (by simp) ?_
            obtain ⟨u2, hu2, hB2, hn2⟩ := hB'.norm
            refine ⟨l.length - (i + 1), envB n l o (i + 1 : Nat), [tB u1, tB u1], by omega, .cut ?_ (by show 2 ≤ 2; omega) rfl rfl, i + 1, u1, u2, rfl, hi', h40', hB2, hn2, rfl, by rw [hu2]⟩
            refine ⟨.inl rfl, .inl rfl, .inl rfl, .inl rfl, .inl rfl, .inl rfl, .inl rfl, .inl rfl, .inl rfl, .inl ?_, ?_⟩
            · exact congrArg (V.int .i64) (wrs i 1 (by omega))
            · repeat (first | exact trivial | refine ⟨.inl rfl, ?_⟩ | refine ⟨.inr rfl, ?_⟩)
          · repeat (first | refine BCase.yes rfl ?_ | refine BCase.no rfl ?_)
            refine ⟨by kernel_rfl, ?_⟩
            repeat (first | refine BCase.yes rfl ?_ | refine BCase.no rfl ?_)
            obtain ⟨u2, hu2, hB2, hn2⟩ := hB'.norm
            refine ⟨l.length - (i + 1), envB n l o (i + 1 : Nat), [tB t1, tB u1], by omega, .cut ?_ (by show 2 ≤ 2; omega) rfl rfl, i + 1, t1, u2, rfl, hi', h40', hB2, hn2, rfl, by rw [hu2]⟩
            refine ⟨.inl rfl, .inl rfl, .inl rfl, .inl rfl, .inl rfl, .inl rfl, .inl rfl, .inl rfl, .inl rfl, .inl ?_, ?_⟩
            · exact congrArg (V.int .i64) (wrs i 1 (by omega))
            · repeat (first | exact trivial | refine ⟨.inl rfl, ?_⟩ | refine ⟨.inr rfl, ?_⟩)
    · rfl
  · repeat (first | refine BCase.yes rfl ?_ | refine BCase.no rfl ?_)
    rfl
end Go.Cx
