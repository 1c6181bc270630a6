/- What functions of this seat compute, each for every argument of the shapes that are named; no condition beside the stated ones. -/
import Derived.Test.YtphpngpfllealaaLX5
namespace Go.Cv
open Go.Proofs
set_option maxRecDepth 100000
set_option maxHeartbeats 4000000

theorem right_fn (s : St) (hs : right s) : Fn Try.prog 25 [s.v] (.bool true) := by
  obtain ⟨⟨h1, h2, h3, h4, h5, h6, h7, h8, h9⟩, ⟨g1, g2, g3, g4, g5, g6, g7⟩⟩ := hs
  have e2 : IntKind.i64.wrap (s.a.cols - 1) = s.a.cols - 1 := wr64 (by omega) (by omega)
  refine Fn.of_body tysOk Try.func25 rfl rfl rfl rfl ?_
  refine DrawP.intro tysOk mixed ?_
  refine ⟨by kernel_rfl, ?_⟩
  refine BCase.yes (decide_eq_true h1) ?_
  repeat (first | refine BCase.yes rfl ?_ | refine BCase.no rfl ?_)
  refine BCase.yes (decide_eq_true h2) ?_
  repeat (first | refine BCase.yes rfl ?_ | refine BCase.no rfl ?_)
  refine BCase.yes (decide_eq_true h3) ?_
  repeat (first | refine BCase.yes rfl ?_ | refine BCase.no rfl ?_)
  refine BCase.yes (decide_eq_true h4) ?_
  repeat (first | refine BCase.yes rfl ?_ | refine BCase.no rfl ?_)
  refine BCase.yes (decide_eq_true h5) ?_
  repeat (first | refine BCase.yes rfl ?_ | refine BCase.no rfl ?_)
  refine BCase.yes (decide_eq_true h6) ?_
  repeat (first | refine BCase.yes rfl ?_ | refine BCase.no rfl ?_)
  rcases h7 with h7 | ⟨h7, h7'⟩
  · refine BCase.yes (decide_eq_true h7) ?_
    repeat (first | refine BCase.yes rfl ?_ | refine BCase.no rfl ?_)
    refine BCase.yes (decide_eq_true g1) ?_
    repeat (first | refine BCase.yes rfl ?_ | refine BCase.no rfl ?_)
    refine BCase.yes (decide_eq_true g2) ?_
    repeat (first | refine BCase.yes rfl ?_ | refine BCase.no rfl ?_)
    refine BCase.yes (decide_eq_true g3) ?_
    repeat (first | refine BCase.yes rfl ?_ | refine BCase.no rfl ?_)
    refine BCase.yes (decide_eq_true g4) ?_
    repeat (first | refine BCase.yes rfl ?_ | refine BCase.no rfl ?_)
    refine BCase.yes (decide_eq_true g5) ?_
    repeat (first | refine BCase.yes rfl ?_ | refine BCase.no rfl ?_)
    refine ⟨fun hw => ?_, fun hw => ?_⟩
    · repeat (first | refine BCase.yes rfl ?_ | refine BCase.no rfl ?_)
      rfl
    · repeat (first | refine BCase.yes rfl ?_ | refine BCase.no rfl ?_)
      show V.bool (s.c.col == IntKind.i64.wrap (s.a.cols - 1)) = V.bool true
      rw [e2, g7 (by simpa using hw), beq_self_eq_true]
  · refine BCase.no (decide_eq_false (by omega)) ?_
    repeat (first | refine BCase.yes rfl ?_ | refine BCase.no rfl ?_)
    refine BCase.yes (by simpa using h7) ?_
    repeat (first | refine BCase.yes rfl ?_ | refine BCase.no rfl ?_)
    refine BCase.yes (by simpa using h7') ?_
    repeat (first | refine BCase.yes rfl ?_ | refine BCase.no rfl ?_)
    refine BCase.yes (decide_eq_true g1) ?_
    repeat (first | refine BCase.yes rfl ?_ | refine BCase.no rfl ?_)
    refine BCase.yes (decide_eq_true g2) ?_
    repeat (first | refine BCase.yes rfl ?_ | refine BCase.no rfl ?_)
    refine BCase.yes (decide_eq_true g3) ?_
    repeat (first | refine BCase.yes rfl ?_ | refine BCase.no rfl ?_)
    refine BCase.yes (decide_eq_true g4) ?_
    repeat (first | refine BCase.yes rfl ?_ | refine BCase.no rfl ?_)
    refine BCase.yes (decide_eq_true g5) ?_
    repeat (first | refine BCase.yes rfl ?_ | refine BCase.no rfl ?_)
    refine ⟨fun hw => ?_, fun hw => ?_⟩
    · repeat (first | refine BCase.yes rfl ?_ | refine BCase.no rfl ?_)
      rfl
    · repeat (first | refine BCase.yes rfl ?_ | refine BCase.no rfl ?_)
      show V.bool (s.c.col == IntKind.i64.wrap (s.a.cols - 1)) = V.bool true
      rw [e2, g7 (by simpa using hw), beq_self_eq_true]
def begS (a b : Int) (l : Int) : St := ⟨newS a b l, homeS (newS a b l)⟩
theorem new_ok (a b l : Int) (h0 : 0 ≤ l) (h1 : l ≤ 1) : (newS a b l).ok := by
  have : 1 ≤ wi a 1 512 ∧ wi a 1 512 ≤ 512 ∧ 1 ≤ wi b 1 512 ∧ wi b 1 512 ≤ 512 := by unfold wi; omega
  exact ⟨this.1, this.2.1, this.2.2.1, this.2.2.2, by simp [newS, resizeS], by simp only [newS, resizeS]; omega, by simp only [newS, resizeS]; omega, h0, h1⟩
theorem beg_right (a b l : Int) (h0 : 0 ≤ l) (h1 : l ≤ 1) : right (begS a b l) := ⟨new_ok a b l h0 h1, goto_inn (new_ok a b l h0 h1) 1 1⟩
theorem begun_fn (x y : Int) (hx : 0 ≤ x ∧ x ≤ 65535) (hy : 0 ≤ y ∧ y ≤ 65535) (b : Bool) : Fn Try.prog 24 [.agg [.int .u16 x, .int .u16 y], .bool b] (begS (x % 40) (y % 40) (if b = true then 1 else 0)).v := by
  have ex : x.tmod 40 = x % 40 := Int.tmod_eq_emod_of_nonneg hx.1
  have ey : y.tmod 40 = y % 40 := Int.tmod_eq_emod_of_nonneg hy.1
  have eX : IntKind.i64.wrap (x.tmod 40) = x % 40 := by rw [ex]; exact wr64 (by omega) (by omega)
  have eY : IntKind.i64.wrap (y.tmod 40) = y % 40 := by rw [ey]; exact wr64 (by omega) (by omega)
  rw [← eX, ← eY]
  refine Fn.of_body tysOk Try.func24 rfl rfl rfl rfl ?_
  refine ⟨fun h => ?_, fun h => ?_⟩
  · subst h
    refine ⟨by decide, by decide, by decide, by decide, ?_⟩
    refine (new_fn _ _ _).sem _ ?_
    refine DrawP.intro tysOk mixed ?_
    refine ⟨_, home_fn _ (new_ok _ _ 1 (by omega) (by omega)), ?_⟩
    refine ⟨by kernel_rfl, ?_⟩
    rfl
  · subst h
    refine ⟨by decide, by decide, by decide, by decide, ?_⟩
    refine (new_fn _ _ _).sem _ ?_
    refine DrawP.intro tysOk mixed ?_
    refine ⟨_, home_fn _ (new_ok _ _ 0 (by omega) (by omega)), ?_⟩
    refine ⟨by kernel_rfl, ?_⟩
    rfl

/-! ### What acts do to labels, and to waiting -/
structure Facts (w : Int) (s t : St) (is : Bool) : Prop where
  base : t.a.base = s.a.base
  homes : (w = 0 ∧ is = true) ∨ w = 2 ∨ w = 3 ∨ w = 4 → t.c.lab = t.a.base ∧ t.c.wrap = false
  keeps : ¬ ((w = 0 ∧ is = true) ∨ w = 2 ∨ w = 3 ∨ w = 4) → w ≠ 14 → t.c.lab = s.c.lab
  moves : 5 ≤ w → w ≤ 13 → t.c.wrap = false
theorem margins_base (a : Ar) (t b : Int) : (marginsS a t b).1.base = a.base := by
  unfold marginsS
  generalize (if b < 1 then a.rows else b) = b'
  split <;> rfl
theorem doesW_facts (w : Int) (x : Ac) (s : St) (hs : right s) : Facts w s (doesW w x s).1 (doesW w x s).2 := by
  have l1 := hs.a.l1; have l2 := hs.a.l2; have k1 := hs.c.l1; have k2 := hs.c.l2
  refine doesW_ind (p := fun y => Facts w s y.1 y.2) (fun h => ?_) (fun h => ?_) (fun h => ?_) (fun h => ?_) (fun h => ?_) (fun h => ?_) (fun h => ?_) (fun h => ?_) (fun h => ?_) (fun h => ?_) (fun h => ?_) (fun h0 h1 h2 h3 h4 h9 h10 h14 => ?_)
  · subst h
    refine ⟨margins_base _ _ _, fun h => ?_, fun h _ => ?_, fun h => by omega⟩
    · have hm : (marginsS s.a (nearS x.a) (nearS x.b)).2 = true := by rcases h with h | h | h | h <;> first | exact h.2 | omega
      show (if (marginsS s.a (nearS x.a) (nearS x.b)).2 = true then homeS (marginsS s.a (nearS x.a) (nearS x.b)).1 else s.c).lab = _ ∧ (if (marginsS s.a (nearS x.a) (nearS x.b)).2 = true then homeS (marginsS s.a (nearS x.a) (nearS x.b)).1 else s.c).wrap = _
      rw [if_pos hm]
      exact ⟨rfl, rfl⟩
    · show (if (marginsS s.a (nearS x.a) (nearS x.b)).2 = true then homeS (marginsS s.a (nearS x.a) (nearS x.b)).1 else s.c).lab = _
      rw [if_neg (fun hm => h (.inl ⟨rfl, hm⟩))]
  · subst h
    refine ⟨rfl, fun h => by omega, fun _ _ => ?_, fun h => by omega⟩
    show jn2 s.c.lab s.a.base = s.c.lab
    unfold jn2
    split <;> omega
  · subst h; exact ⟨rfl, fun _ => ⟨rfl, rfl⟩, fun h => absurd (.inr (.inl rfl)) h, fun h => by omega⟩
  · subst h; exact ⟨rfl, fun _ => ⟨rfl, rfl⟩, fun h => absurd (.inr (.inr (.inl rfl))) h, fun h => by omega⟩
  · subst h; exact ⟨rfl, fun _ => ⟨rfl, rfl⟩, fun h => absurd (.inr (.inr (.inr rfl))) h, fun h => by omega⟩
  · subst h; exact ⟨rfl, fun h => by omega, fun _ _ => rfl, fun _ _ => rfl⟩
  · subst h; exact ⟨rfl, fun h => by omega, fun _ _ => rfl, fun _ _ => rfl⟩
  · refine ⟨rfl, fun h => by omega, fun _ _ => ?_, fun _ _ => ?_⟩ <;> (simp only [indexS]; split <;> rfl)
  · refine ⟨rfl, fun h => by omega, fun _ _ => ?_, fun _ _ => ?_⟩ <;> (simp only [revS]; split <;> rfl)
  · subst h; exact ⟨rfl, fun h => by omega, fun _ h => absurd rfl h, fun _ h => by omega⟩
  · subst h; exact ⟨rfl, fun h => by omega, fun _ _ => rfl, fun _ h => by omega⟩
  · exact ⟨rfl, fun h => by omega, fun _ _ => rfl, fun _ _ => rfl⟩
end Go.Cv
