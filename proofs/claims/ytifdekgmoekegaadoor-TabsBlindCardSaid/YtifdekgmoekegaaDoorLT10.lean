/- What functions of this seat compute, each for every argument of the shapes that are named; no condition beside the stated ones. -/
import Derived.Test.YtifdekgmoekegaaDoorLT9
namespace Go.Cx
open Go.Proofs
set_option maxRecDepth 100000
set_option maxHeartbeats 1000000
theorem clrN_bit (c : Nat) : ∀ (n : Nat) (w : Nat → Nat) (a : Nat), bit (clrN w a n) c = (bit w c && !(decide (a ≤ c) && decide (c < a + n)))
  | 0, w, a => by
    have : (decide (a ≤ c) && decide (c < a + 0)) = false := by
      simp only [Bool.and_eq_false_iff, decide_eq_false_iff_not]; omega
    rw [this]; simp [clrN]
  | n + 1, w, a => by
    rw [clrN, clrN_bit c n, clr_bit]
    by_cases h1 : c = a
    · subst h1
      have : (decide (c ≤ c) && decide (c < c + (n + 1))) = true := by simp
      rw [this]; simp
    · have : (decide (a ≤ c) && decide (c < a + (n + 1))) = (decide (a + 1 ≤ c) && decide (c < a + 1 + n)) := by
        rw [Bool.eq_iff_iff]; simp only [Bool.and_eq_true, decide_eq_true_eq]; omega
      rw [this]; simp [h1]
theorem setN_bit (c : Nat) : ∀ (n : Nat) (w : Nat → Nat) (a : Nat), bit (setN w a n) c = (bit w c || (decide (a ≤ c) && decide (c < a + 8 * n) && decide ((c - a) % 8 = 0)))
  | 0, w, a => by
    have : (decide (a ≤ c) && decide (c < a + 8 * 0)) = false := by
      simp only [Bool.and_eq_false_iff, decide_eq_false_iff_not]; omega
    rw [this]; simp [setN]
  | n + 1, w, a => by
    rw [setN, setN_bit c n, sett_bit]
    by_cases h1 : c = a
    · subst h1; simp
    · have : (decide (a ≤ c) && decide (c < a + 8 * (n + 1)) && decide ((c - a) % 8 = 0)) = (decide (a + 8 ≤ c) && decide (c < a + 8 + 8 * n) && decide ((c - (a + 8)) % 8 = 0)) := by
        rw [Bool.eq_iff_iff]; simp only [Bool.and_eq_true, decide_eq_true_eq]; omega
      rw [this]; simp [h1]
theorem clrN_ok : ∀ (n : Nat) (w : Nat → Nat) (a : Nat), okW w → okW (clrN w a n)
  | 0, _, _, h => h
  | n + 1, w, a, h => clrN_ok n _ _ (clr_ok h a)
theorem setN_ok : ∀ (n : Nat) (w : Nat → Nat) (a : Nat), okW w → okW (setN w a n)
  | 0, _, _, h => h
  | n + 1, w, a, h => setN_ok n _ _ (sett_ok h a)

/-- No bit stands behind the last column. -/
structure Tb.good (t : Tb) : Prop where
  ok : t.ok
  clean : ∀ c : Nat, t.n ≤ c → bit t.w c = false
def firstB (c : Nat) : Bool := decide (0 < c) && decide (c % 8 = 0)
theorem clampN_le (n : Int) : clampN n ≤ 512 := by unfold clampN; omega
theorem resize_n (t : Tb) (n : Int) : (t.resize n).n = clampN n := by unfold Tb.n Tb.resize; simp
theorem resize_bit (t : Tb) (ht : t.good) (n : Int) (c : Nat) : bit (t.resize n).w c = (decide (c < clampN n) && if c < t.n then bit t.w c else firstB c) := by
  show bit (resizeW t (clampN n)) c = _
  unfold resizeW
  rw [setN_bit, clrN_bit]
  have h1 := ht.clean c
  generalize clampN n = cl at *
  generalize t.n = was at *
  unfold fromN firstB
  by_cases hc : c < was
  · rw [if_pos hc]
    have e : (decide (max 8 ((was + 7) / 8 * 8) ≤ c) && decide (c < max 8 ((was + 7) / 8 * 8) + 8 * ((cl - max 8 ((was + 7) / 8 * 8) + 7) / 8)) && decide ((c - max 8 ((was + 7) / 8 * 8)) % 8 = 0)) = false := by
      have : decide (max 8 ((was + 7) / 8 * 8) ≤ c) = false := by simp; omega
      rw [this]; rfl
    rw [e, Bool.or_false, Bool.and_comm]
    congr 1
    rw [Bool.eq_iff_iff]; simp; omega
  · rw [if_neg hc, h1 (by omega), Bool.false_and, Bool.false_or]
    rw [Bool.eq_iff_iff]; simp only [Bool.and_eq_true, decide_eq_true_eq]; omega
theorem resize_good {t : Tb} (ht : t.good) (n : Int) : (t.resize n).good := by
  refine ⟨⟨by show (0 : Int) ≤ (clampN n : Nat); omega, by show ((clampN n : Nat) : Int) ≤ 512; have := clampN_le n; omega, setN_ok _ _ _ (clrN_ok _ _ _ ht.ok.w)⟩, fun c hc => ?_⟩
  rw [resize_n] at hc
  rw [resize_bit t ht]
  have : decide (c < clampN n) = false := by simp; omega
  rw [this]; rfl
theorem zero_good (b : Int) : (Tb.mk (fun _ => 0) 0 b b).good := ⟨⟨Int.le_refl _, by show (0 : Int) ≤ 512; omega, fun _ => by simp⟩, fun c _ => by unfold bit; simp⟩
theorem foldS_good (cols : Int) (h0 : 0 ≤ cols) : ∀ (l : List Int) (w : Nat → Nat), okW w → (∀ c : Nat, cols.toNat ≤ c → bit w c = false) → okW (l.foldl (stepS cols) w) ∧ ∀ c : Nat, cols.toNat ≤ c → bit (l.foldl (stepS cols) w) c = false
  | [], w, h1, h2 => ⟨h1, h2⟩
  | x :: l, w, h1, h2 => by
    rw [List.foldl_cons]
    unfold stepS
    split
    · rename_i hx
      refine foldS_good cols h0 l _ (sett_ok h1 _) fun c hc => ?_
      rw [sett_bit, h2 c hc]
      have : c ≠ x.toNat := by omega
      simp [this]
    · exact foldS_good cols h0 l w h1 h2
theorem foldC_good (cols : Int) : ∀ (l : List Int) (w : Nat → Nat), okW w → (∀ c : Nat, cols.toNat ≤ c → bit w c = false) → okW (l.foldl (stepC cols) w) ∧ ∀ c : Nat, cols.toNat ≤ c → bit (l.foldl (stepC cols) w) c = false
  | [], w, h1, h2 => ⟨h1, h2⟩
  | x :: l, w, h1, h2 => by
    rw [List.foldl_cons]
    unfold stepC
    split
    · refine foldC_good cols l _ (clr_ok h1 _) fun c hc => ?_
      rw [clr_bit, h2 c hc]; rfl
    · exact foldC_good cols l w h1 h2
theorem put_good {t : Tb} (ht : t.good) (b : Int) (l : List Int) : (t.put b l).good :=
  have h := foldS_good t.cols ht.ok.c0 l t.w ht.ok.w ht.clean
  ⟨⟨ht.ok.c0, ht.ok.c1, h.1⟩, h.2⟩
theorem clear_good {t : Tb} (ht : t.good) (b : Int) (l : List Int) : (t.clear b l).good :=
  have h := foldC_good t.cols l t.w ht.ok.w ht.clean
  ⟨⟨ht.ok.c0, ht.ok.c1, h.1⟩, h.2⟩
theorem raise_good {t : Tb} (ht : t.good) (b : Int) : (t.raise b).good := ⟨⟨ht.ok.c0, ht.ok.c1, ht.ok.w⟩, ht.clean⟩
theorem decl_good {t : Tb} (ht : t.good) : t.decl.good := ⟨⟨ht.ok.c0, ht.ok.c1, ht.ok.w⟩, ht.clean⟩
theorem none_good {t : Tb} (ht : t.good) : t.none.good := ⟨⟨ht.ok.c0, ht.ok.c1, fun _ => by show (0 : Nat) < 2 ^ 64; simp⟩, fun c _ => by unfold bit Tb.none; simp⟩
theorem does_good (a : Ac) {t : Tb} (ht : t.good) : (a.does t).good := by
  unfold Ac.does
  split
  · exact clear_good ht _ _
  split
  · exact none_good ht
  split
  · exact raise_good ht _
  split
  · exact decl_good ht
  split
  · exact resize_good ht _
  · exact put_good ht _ _
theorem has_nat (t : Tb) (ht : t.ok) (c : Nat) : t.has c = (decide (c < t.n) && bit t.w c) := by
  have := ht.c0
  unfold Tb.has Tb.there Tb.n
  rw [Int.toNat_natCast]
  congr 1
  rw [Bool.eq_iff_iff]; simp <;> omega
theorem resize_has (t : Tb) (ht : t.good) (n : Int) (c : Nat) (hc : c < clampN n) : (t.resize n).has c = if c < t.n then t.has c else firstB c := by
  rw [has_nat _ (resize_good ht n).ok, resize_n, resize_bit t ht, has_nat t ht.ok]
  simp only [hc, decide_true, Bool.true_and]
  split
  · rename_i h; simp [h]
  · rfl
theorem resize_self (t : Tb) (ht : t.good) : t.resize t.cols = t := by
  have h0 := ht.ok.c0
  have h1 := ht.ok.c1
  have hn : clampN t.cols = t.n := by unfold clampN Tb.n; omega
  have hw : resizeW t t.n = t.w := by
    unfold resizeW fromN
    rw [Nat.sub_self, show (t.n - max 8 ((t.n + 7) / 8 * 8) + 7) / 8 = 0 by omega]
    rfl
  have hc : ((t.n : Nat) : Int) = t.cols := by unfold Tb.n; omega
  unfold Tb.resize
  rw [hn, hw, hc]
/-- What TabsSizes asks of a column. -/
theorem sizes_col (t : Tb) (ht : t.good) (n m : Int) (c : Nat) (hc : c < clampN m) :
    let a := t.resize n
    let b := a.resize m
    (c < min t.n (min (clampN n) (clampN m)) → b.has c = t.has c) ∧ (clampN n ≤ c ∨ t.n ≤ c → ¬ c < min t.n (min (clampN n) (clampN m)) → b.has c = firstB c) := by
  intro a b
  have ha := resize_good ht n
  have hb : b.has c = if c < clampN n then a.has c else firstB c := by
    have := resize_has a ha m c hc
    rw [resize_n] at this
    exact this
  refine ⟨fun h => ?_, fun h1 h2 => ?_⟩
  · rw [hb, if_pos (by omega), resize_has t ht n c (by omega), if_pos (by omega)]
  · rw [hb]
    split
    · rw [resize_has t ht n c (by assumption), if_neg (by omega)]
    · rfl
end Go.Cx
