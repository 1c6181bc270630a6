/- What functions of this seat compute, each for every argument of the shapes that are named; no condition beside the stated ones. -/
import Derived.Test.YtphpngpfllealaaLX4
namespace Go.Cv
open Go.Proofs
set_option maxRecDepth 100000
set_option maxHeartbeats 4000000

structure St where
  a : Ar
  c : Cu
def St.v (s : St) : V := .agg [.int .i64 s.a.rows, .int .i64 s.a.cols, .int .i64 s.a.top, .int .i64 s.a.bottom, .bool s.a.org, .int .u8 s.a.base, .int .i64 s.c.row, .int .i64 s.c.col, .bool s.c.wrap, .int .u8 s.c.lab]
structure Ac where
  what : Int
  a : Int
  b : Int
  n : Int
def Ac.l (x : Ac) : List V := [.int .u8 x.what, .int .u8 x.a, .int .u8 x.b, .int .i64 x.n]
structure Ac.ok (x : Ac) : Prop where
  w1 : 0 ≤ x.what
  w2 : x.what ≤ 255
  a1 : 0 ≤ x.a
  a2 : x.a ≤ 255
  b1 : 0 ≤ x.b
  b2 : x.b ≤ 255
def orgS (a : Ar) (o : Bool) : Ar := ⟨a.rows, a.cols, a.top, a.bottom, o, a.base⟩
def wrapS (c : Cu) (w : Bool) : Cu := ⟨c.row, c.col, w, c.lab⟩
def homeS (a : Ar) : Cu := gotoS a 1 1
/-- An act, of a number below sixteen. -/
def doesW (w : Int) (x : Ac) (s : St) : St × Bool :=
  if w = 0 then (⟨(marginsS s.a (nearS x.a) (nearS x.b)).1, if (marginsS s.a (nearS x.a) (nearS x.b)).2 = true then homeS (marginsS s.a (nearS x.a) (nearS x.b)).1 else s.c⟩, (marginsS s.a (nearS x.a) (nearS x.b)).2)
  else if w = 1 then (⟨resizeS s.a (nearS x.a) (nearS x.b), wrapS (withinS (resizeS s.a (nearS x.a) (nearS x.b)) s.c) false⟩, false)
  else if w = 2 then (⟨orgS s.a (x.a.tmod 2 == 1), homeS (orgS s.a (x.a.tmod 2 == 1))⟩, false)
  else if w = 3 then (⟨s.a, homeS s.a⟩, false)
  else if w = 4 then (⟨s.a, gotoS s.a (nearS x.a) (nearS x.b)⟩, false)
  else if w = 9 then (⟨s.a, lineS s.a s.c (nearS x.a)⟩, false)
  else if w = 10 then (⟨s.a, colS s.a s.c (nearS x.a)⟩, false)
  else if w = 11 ∨ w = 12 then (⟨s.a, (indexS s.a s.c).1⟩, (indexS s.a s.c).2)
  else if w = 13 then (⟨s.a, (revS s.a s.c).1⟩, (revS s.a s.c).2)
  else if w = 14 then (⟨s.a, labS s.c (jn2 (jn2 s.c.lab 0) (x.a.tmod 2))⟩, false)
  else if w = 15 then (⟨s.a, wrapS s.c (s.c.col == s.a.cols - 1)⟩, false)
  else (⟨s.a, moveS s.a s.c (nearS x.a) (nearS x.b)⟩, false)
def doesS (x : Ac) (s : St) : St × Bool := doesW (x.what.tmod 16) x s

structure right (s : St) : Prop where
  a : s.a.ok
  c : s.c.inn s.a

theorem margins_ok {a : Ar} (ha : a.ok) (t b : Int) : (marginsS a t b).1.ok := by
  obtain ⟨h1, h2, h3, h4, h5, h6, h7, h8, h9⟩ := ha
  unfold marginsS
  generalize (if b < 1 then a.rows else b) = b'
  split
  · exact ⟨h1, h2, h3, h4, h5, h6, h7, h8, h9⟩
  · rename_i h
    exact ⟨h1, h2, h3, h4, by simp only; omega, by simp only; omega, by simp only; omega, h8, h9⟩
theorem resize_ok {a : Ar} (ha : a.ok) (r k : Int) : (resizeS a r k).ok := by
  obtain ⟨h1, h2, h3, h4, h5, h6, h7, h8, h9⟩ := ha
  have : 1 ≤ wi r 1 512 ∧ wi r 1 512 ≤ 512 ∧ 1 ≤ wi k 1 512 ∧ wi k 1 512 ≤ 512 := by unfold wi; omega
  exact ⟨this.1, this.2.1, this.2.2.1, this.2.2.2, by simp [resizeS], by simp only [resizeS]; omega, by simp only [resizeS]; omega, h8, h9⟩
theorem org_ok {a : Ar} (ha : a.ok) (o : Bool) : (orgS a o).ok := by
  obtain ⟨h1, h2, h3, h4, h5, h6, h7, h8, h9⟩ := ha
  exact ⟨h1, h2, h3, h4, h5, h6, h7, h8, h9⟩
theorem rowS_bd {a : Ar} (ha : a.ok) (p : Int) : 0 ≤ rowS a p ∧ rowS a p < a.rows := by
  obtain ⟨h1, h2, h3, h4, h5, h6, h7, h8, h9⟩ := ha
  unfold rowS wi
  split <;> omega
theorem goto_inn {a : Ar} (ha : a.ok) (r k : Int) : (gotoS a r k).inn a := by
  have hr := rowS_bd ha r
  have h3 := ha.c1; have h8 := ha.l1; have h9 := ha.l2
  exact ⟨hr.1, hr.2, by simp only [gotoS, wi]; omega, by simp only [gotoS, wi]; omega, Int.le_refl _, h9, fun h => by cases h⟩
theorem jn2_bd (x y : Int) : 0 ≤ jn2 x y ∧ jn2 x y ≤ 1 := by unfold jn2; split <;> omega
theorem within_inn {a : Ar} (ha : a.ok) (c : Cu) : (wrapS (withinS a c) false).inn a := by
  have h1 := ha.r1; have h3 := ha.c1; have h8 := ha.l1; have h9 := ha.l2
  refine ⟨by simp only [wrapS, withinS, wi]; omega, by simp only [wrapS, withinS, wi]; omega, by simp only [wrapS, withinS, wi]; omega, by simp only [wrapS, withinS, wi]; omega, ?_, (jn2_bd _ _).2, fun h => by cases h⟩
  simp only [wrapS, withinS, jn2]
  split <;> omega
theorem move_inn {a : Ar} (ha : a.ok) {c : Cu} (hc : c.inn a) (r k : Int) : (moveS a c r k).inn a := by
  obtain ⟨h1, h2, h3, h4, h5, h6, h7, h8, h9⟩ := ha
  obtain ⟨g1, g2, g3, g4, g5, g6, g7⟩ := hc
  have hr : 0 ≤ (moveS a c r k).row ∧ (moveS a c r k).row < a.rows := by
    simp only [moveS, firstS, lastS]
    generalize wi r (-512) 512 = r'
    split
    · split <;> omega
    · split
      · split <;> omega
      · omega
  exact ⟨hr.1, hr.2, by simp only [moveS, wi]; omega, by simp only [moveS, wi]; omega, g5, g6, fun h => by cases h⟩
theorem doesW_ind {w : Int} {x : Ac} {s : St} {p : St × Bool → Prop}
    (h0 : w = 0 → p (⟨(marginsS s.a (nearS x.a) (nearS x.b)).1, if (marginsS s.a (nearS x.a) (nearS x.b)).2 = true then homeS (marginsS s.a (nearS x.a) (nearS x.b)).1 else s.c⟩, (marginsS s.a (nearS x.a) (nearS x.b)).2))
    (h1 : w = 1 → p (⟨resizeS s.a (nearS x.a) (nearS x.b), wrapS (withinS (resizeS s.a (nearS x.a) (nearS x.b)) s.c) false⟩, false))
    (h2 : w = 2 → p (⟨orgS s.a (x.a.tmod 2 == 1), homeS (orgS s.a (x.a.tmod 2 == 1))⟩, false))
    (h3 : w = 3 → p (⟨s.a, homeS s.a⟩, false))
    (h4 : w = 4 → p (⟨s.a, gotoS s.a (nearS x.a) (nearS x.b)⟩, false))
    (h9 : w = 9 → p (⟨s.a, lineS s.a s.c (nearS x.a)⟩, false))
    (h10 : w = 10 → p (⟨s.a, colS s.a s.c (nearS x.a)⟩, false))
    (h11 : (w = 11 ∨ w = 12) → p (⟨s.a, (indexS s.a s.c).1⟩, (indexS s.a s.c).2))
    (h13 : w = 13 → p (⟨s.a, (revS s.a s.c).1⟩, (revS s.a s.c).2))
    (h14 : w = 14 → p (⟨s.a, labS s.c (jn2 (jn2 s.c.lab 0) (x.a.tmod 2))⟩, false))
    (h15 : w = 15 → p (⟨s.a, wrapS s.c (s.c.col == s.a.cols - 1)⟩, false))
    (hd : w ≠ 0 → w ≠ 1 → w ≠ 2 → w ≠ 3 → w ≠ 4 → w ≠ 9 → w ≠ 10 → w ≠ 14 → p (⟨s.a, moveS s.a s.c (nearS x.a) (nearS x.b)⟩, false)) :
    p (doesW w x s) := by
  unfold doesW
  by_cases c0 : w = 0
  · rw [if_pos c0]; exact h0 c0
  rw [if_neg c0]
  by_cases c1 : w = 1
  · rw [if_pos c1]; exact h1 c1
  rw [if_neg c1]
  by_cases c2 : w = 2
  · rw [if_pos c2]; exact h2 c2
  rw [if_neg c2]
  by_cases c3 : w = 3
  · rw [if_pos c3]; exact h3 c3
  rw [if_neg c3]
  by_cases c4 : w = 4
  · rw [if_pos c4]; exact h4 c4
  rw [if_neg c4]
  by_cases c9 : w = 9
  · rw [if_pos c9]; exact h9 c9
  rw [if_neg c9]
  by_cases c10 : w = 10
  · rw [if_pos c10]; exact h10 c10
  rw [if_neg c10]
  by_cases c11 : (w = 11 ∨ w = 12)
  · rw [if_pos c11]; exact h11 c11
  rw [if_neg c11]
  by_cases c13 : w = 13
  · rw [if_pos c13]; exact h13 c13
  rw [if_neg c13]
  by_cases c14 : w = 14
  · rw [if_pos c14]; exact h14 c14
  rw [if_neg c14]
  by_cases c15 : w = 15
  · rw [if_pos c15]; exact h15 c15
  rw [if_neg c15]
  exact hd c0 c1 c2 c3 c4 c9 c10 c14
theorem margins_no {a : Ar} {t b : Int} (h : ¬ (marginsS a t b).2 = true) : (marginsS a t b).1 = a := by
  unfold marginsS at h ⊢
  generalize (if b < 1 then a.rows else b) = b' at h ⊢
  split
  · rfl
  · rename_i g; rw [if_neg g] at h; simp at h
theorem line_inn {a : Ar} (ha : a.ok) {c : Cu} (hc : c.inn a) (r : Int) : (lineS a c r).inn a :=
  have hr := rowS_bd ha r
  ⟨hr.1, hr.2, hc.c1, hc.c2, hc.l1, hc.l2, fun h => by cases h⟩
theorem col_inn {a : Ar} (ha : a.ok) {c : Cu} (hc : c.inn a) (r : Int) : (colS a c r).inn a := by
  have := ha.c1
  exact ⟨hc.r1, hc.r2, by simp only [colS, wi]; omega, by simp only [colS, wi]; omega, hc.l1, hc.l2, fun h => by cases h⟩
theorem stop_inn {a : Ar} {c : Cu} (hc : c.inn a) : (stopS c).inn a := ⟨hc.r1, hc.r2, hc.c1, hc.c2, hc.l1, hc.l2, fun h => by cases h⟩
theorem index_inn {a : Ar} (ha : a.ok) {c : Cu} (hc : c.inn a) : (indexS a c).1.inn a := by
  unfold indexS
  split
  · exact stop_inn hc
  · exact move_inn ha hc _ _
theorem rev_inn {a : Ar} (ha : a.ok) {c : Cu} (hc : c.inn a) : (revS a c).1.inn a := by
  unfold revS
  split
  · exact stop_inn hc
  · exact move_inn ha hc _ _
theorem lab_inn {a : Ar} (ha : a.ok) {c : Cu} (hc : c.inn a) (x : Int) : (labS c (jn2 (jn2 c.lab 0) x)).inn a := by
  refine ⟨hc.r1, hc.r2, hc.c1, hc.c2, ?_, (jn2_bd _ _).2, hc.w⟩
  have := ha.l1; have := ha.l2; have := hc.l1; have := hc.l2
  show a.base ≤ jn2 (jn2 c.lab 0) x
  by_cases h : c.lab > 0
  · rw [show jn2 c.lab 0 = 1 by simp [jn2, h], show jn2 1 x = 1 by simp [jn2]]; omega
  · have := (jn2_bd (jn2 c.lab 0) x).1; omega
theorem wrap_inn {a : Ar} {c : Cu} (hc : c.inn a) : (wrapS c (c.col == a.cols - 1)).inn a :=
  ⟨hc.r1, hc.r2, hc.c1, hc.c2, hc.l1, hc.l2, fun h => by simpa [wrapS] using h⟩
theorem does_right {x : Ac} {s : St} (hs : right s) : right (doesS x s).1 := by
  obtain ⟨ha, hc⟩ := hs
  unfold doesS
  refine doesW_ind (p := fun y => right y.1) (fun _ => ⟨margins_ok ha _ _, ?_⟩) (fun _ => ⟨resize_ok ha _ _, within_inn (resize_ok ha _ _) _⟩) (fun _ => ⟨org_ok ha _, goto_inn (org_ok ha _) 1 1⟩) (fun _ => ⟨ha, goto_inn ha 1 1⟩) (fun _ => ⟨ha, goto_inn ha _ _⟩) (fun _ => ⟨ha, line_inn ha hc _⟩) (fun _ => ⟨ha, col_inn ha hc _⟩) (fun _ => ⟨ha, index_inn ha hc⟩) (fun _ => ⟨ha, rev_inn ha hc⟩) (fun _ => ⟨ha, lab_inn ha hc _⟩) (fun _ => ⟨ha, wrap_inn hc⟩) (fun _ _ _ _ _ _ _ _ => ⟨ha, move_inn ha hc _ _⟩)
  simp only
  split
  · exact goto_inn (margins_ok ha _ _) 1 1
  · rename_i h
    rw [margins_no h]; exact hc
theorem does_fn (x : Ac) (hx : x.ok) (s : St) (hs : right s) : Fn Try.prog 13 [.agg x.l, s.v] (.tup [(doesS x s).1.v, .bool (doesS x s).2]) := by
  obtain ⟨ha, hc⟩ := hs
  have e2 : IntKind.i64.wrap (s.a.cols - 1) = s.a.cols - 1 := wr64 (by have := ha.c1; omega) (by have := ha.c2; omega)
  refine Fn.of_body tysOk Try.func13 rfl rfl rfl rfl ?_
  refine DrawP.intro tysOk mixed ?_
  refine ⟨_, near_fn _ hx.a1 hx.a2, ?_⟩
  refine ⟨_, near_fn _ hx.b1 hx.b2, ?_⟩
  refine ⟨by kernel_rfl, ?_⟩
  refine ⟨by decide, ?_⟩
  unfold doesS
  generalize x.what.tmod 16 = w
  refine ⟨fun h => ?_, fun h0 => ?_⟩
  · obtain rfl : w = 0 := by simpa using h
    have e : doesW 0 x s = (⟨(marginsS s.a (nearS x.a) (nearS x.b)).1, if (marginsS s.a (nearS x.a) (nearS x.b)).2 = true then homeS (marginsS s.a (nearS x.a) (nearS x.b)).1 else s.c⟩, (marginsS s.a (nearS x.a) (nearS x.b)).2) := rfl
    rw [e]
    refine (margins_fn s.a ha _ _).sem _ ?_
    refine ⟨fun g => ?_, fun g => ?_⟩
    · refine (home_fn _ (margins_ok ha _ _)).sem _ ?_
      simp only [g, if_true]
      rfl
    · simp only [g, Bool.false_eq_true, if_false]
      rfl
  refine ⟨fun h => ?_, fun h1 => ?_⟩
  · obtain rfl : w = 1 := by simpa using h
    refine (resize_fn s.a _ _).sem _ ?_
    refine (withinA_fn _ (resize_ok ha _ _) s.c).sem _ ?_
    rfl
  refine ⟨fun h => ?_, fun h2 => ?_⟩
  · obtain rfl : w = 2 := by simpa using h
    refine ⟨by decide, ?_⟩
    refine (home_fn (orgS s.a (x.a.tmod 2 == 1)) (org_ok ha _)).sem _ ?_
    rfl
  refine ⟨fun h => ?_, fun h3 => ?_⟩
  · obtain rfl : w = 3 := by simpa using h
    refine (home_fn s.a ha).sem _ ?_
    rfl
  refine ⟨fun h => ?_, fun h4 => ?_⟩
  · obtain rfl : w = 4 := by simpa using h
    refine (goto_fn s.a ha _ _).sem _ ?_
    rfl
  refine ⟨fun h => ?_, fun h9 => ?_⟩
  · obtain rfl : w = 9 := by simpa using h
    refine (line_fn s.a ha s.c _).sem _ ?_
    rfl
  refine ⟨fun h => ?_, fun h10 => ?_⟩
  · obtain rfl : w = 10 := by simpa using h
    refine (column_fn s.a ha s.c _).sem _ ?_
    rfl
  refine ⟨fun h => ?_, fun h11 => ?_⟩
  · obtain rfl : w = 11 := by simpa using h
    refine BCase.yes rfl ?_
    refine (index_fn s.a ha s.c hc).sem _ ?_
    rfl
  refine ⟨fun h => ?_, fun h12 => ?_⟩
  · obtain rfl : w = 12 := by simpa using h
    refine (index_fn s.a ha s.c hc).sem _ ?_
    rfl
  refine ⟨fun h => ?_, fun h13 => ?_⟩
  · obtain rfl : w = 13 := by simpa using h
    refine (reverse_fn s.a ha s.c hc).sem _ ?_
    rfl
  refine ⟨fun h => ?_, fun h14 => ?_⟩
  · obtain rfl : w = 14 := by simpa using h
    refine ⟨by decide, ?_⟩
    refine (raise2_fn s.c _ _).sem _ ?_
    rfl
  refine ⟨fun h => ?_, fun h15 => ?_⟩
  · obtain rfl : w = 15 := by simpa using h
    show V.tup [.agg [.int .i64 s.a.rows, .int .i64 s.a.cols, .int .i64 s.a.top, .int .i64 s.a.bottom, .bool s.a.org, .int .u8 s.a.base, .int .i64 s.c.row, .int .i64 s.c.col, .bool (s.c.col == IntKind.i64.wrap (s.a.cols - 1)), .int .u8 s.c.lab], .bool false] = _
    rw [e2]
    rfl
  refine (move_fn s.a ha s.c hc _ _).sem _ ?_
  have n0 : ¬ w = 0 := by simpa using h0
  have n1 : ¬ w = 1 := by simpa using h1
  have n2 : ¬ w = 2 := by simpa using h2
  have n3 : ¬ w = 3 := by simpa using h3
  have n4 : ¬ w = 4 := by simpa using h4
  have n9 : ¬ w = 9 := by simpa using h9
  have n10 : ¬ w = 10 := by simpa using h10
  have n11 : ¬ w = 11 := by simpa using h11
  have n12 : ¬ w = 12 := by simpa using h12
  have n13 : ¬ w = 13 := by simpa using h13
  have n14 : ¬ w = 14 := by simpa using h14
  have n15 : ¬ w = 15 := by simpa using h15
  unfold doesW
  rw [if_neg n0, if_neg n1, if_neg n2, if_neg n3, if_neg n4, if_neg n9, if_neg n10, if_neg (fun h => h.elim n11 n12), if_neg n13, if_neg n14, if_neg n15]
  rfl
end Go.Cv
