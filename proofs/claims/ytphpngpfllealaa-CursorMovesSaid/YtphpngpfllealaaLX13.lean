/- What functions of this seat compute, each for every argument of the shapes that are named; no condition beside the stated ones. -/
import Derived.Test.YtphpngpfllealaaLX8
namespace Go.Cv
open Go.Proofs
set_option maxRecDepth 100000
set_option maxHeartbeats 4000000

/-! ### Moves, one by one and at once -/
theorem wi_id {n : Int} (h : -512 ≤ n ∧ n ≤ 512) : wi n (-512) 512 = n := by unfold wi; omega
def downS (a : Ar) (c : Cu) (i : Int) : Int := min (c.row + i) (lastS a c)
def upS (a : Ar) (c : Cu) (i : Int) : Int := max (c.row - i) (firstS a c)
def rightS (a : Ar) (c : Cu) (i : Int) : Int := min (c.col + i) (a.cols - 1)
def leftS (c : Cu) (i : Int) : Int := max (c.col - i) 0
theorem row_last {a : Ar} {c : Cu} (hc : c.inn a) : c.row ≤ lastS a c := by
  have := hc.r2
  unfold lastS; split <;> omega
theorem row_first {a : Ar} {c : Cu} (hc : c.inn a) : firstS a c ≤ c.row := by
  have := hc.r1
  unfold firstS; split <;> omega
theorem move_dr {a : Ar} {c : Cu} (hc : c.inn a) {d r : Int} (hd : 0 ≤ d ∧ d ≤ 512) (hr : 0 ≤ r ∧ r ≤ 512) : moveS a c d r = ⟨downS a c d, rightS a c r, false, c.lab⟩ := by
  have h1 := row_last hc
  have h2 := hc.c1; have h3 := hc.c2
  unfold moveS
  rw [wi_id (by omega), wi_id (by omega)]
  have e1 : (if d > 0 then min (c.row + d) (lastS a c) else if d < 0 then max (c.row + d) (firstS a c) else c.row) = downS a c d := by unfold downS; split <;> (try split) <;> omega
  have e2 : wi (c.col + r) 0 (a.cols - 1) = rightS a c r := by unfold wi rightS; omega
  rw [e1, e2]
theorem move_ul {a : Ar} {c : Cu} (hc : c.inn a) {d r : Int} (hd : 0 ≤ d ∧ d ≤ 512) (hr : 0 ≤ r ∧ r ≤ 512) : moveS a c (-d) (-r) = ⟨upS a c d, leftS c r, false, c.lab⟩ := by
  have h1 := row_first hc
  have h2 := hc.c1; have h3 := hc.c2
  unfold moveS
  rw [wi_id (by omega), wi_id (by omega)]
  have e1 : (if -d > 0 then min (c.row + -d) (lastS a c) else if -d < 0 then max (c.row + -d) (firstS a c) else c.row) = upS a c d := by unfold upS; split <;> (try split) <;> omega
  have e2 : wi (c.col + -r) 0 (a.cols - 1) = leftS c r := by unfold wi leftS; omega
  rw [e1, e2]
/-- A cursor on the way. -/
structure Way (a : Ar) (c x : Cu) (row col : Int) : Prop where
  r : x.row = row
  k : x.col = col
  l : x.lab = c.lab
theorem down_inn {a : Ar} (ha : a.ok) {c : Cu} (hc : c.inn a) {i : Int} (hi : 0 ≤ i) : 0 ≤ downS a c i ∧ downS a c i < a.rows := by
  obtain ⟨h1, h2, h3, h4, h5, h6, h7, h8, h9⟩ := ha
  have := hc.r1; have := hc.r2
  unfold downS lastS; split <;> omega
theorem up_inn {a : Ar} (ha : a.ok) {c : Cu} (hc : c.inn a) {i : Int} (hi : 0 ≤ i) : 0 ≤ upS a c i ∧ upS a c i < a.rows := by
  obtain ⟨h1, h2, h3, h4, h5, h6, h7, h8, h9⟩ := ha
  have := hc.r1; have := hc.r2
  unfold upS firstS; split <;> omega
theorem right_inn {a : Ar} (ha : a.ok) {c : Cu} (hc : c.inn a) {i : Int} (hi : 0 ≤ i) : 0 ≤ rightS a c i ∧ rightS a c i < a.cols := by
  have := ha.c1; have := hc.c1; have := hc.c2
  unfold rightS; omega
theorem left_inn {a : Ar} (ha : a.ok) {c : Cu} (hc : c.inn a) {i : Int} (hi : 0 ≤ i) : 0 ≤ leftS c i ∧ leftS c i < a.cols := by
  have := ha.c1; have := hc.c1; have := hc.c2
  unfold leftS; omega
theorem last_down {a : Ar} (ha : a.ok) {c x : Cu} (hc : c.inn a) {i : Int} (hi : 0 ≤ i) (hx : x.row = downS a c i) : lastS a x = lastS a c := by
  obtain ⟨h1, h2, h3, h4, h5, h6, h7, h8, h9⟩ := ha
  have := hc.r1; have := hc.r2
  unfold lastS
  rw [hx]
  unfold downS lastS
  split <;> split <;> (try split) <;> omega
theorem first_up {a : Ar} (ha : a.ok) {c x : Cu} (hc : c.inn a) {i : Int} (hi : 0 ≤ i) (hx : x.row = upS a c i) : firstS a x = firstS a c := by
  obtain ⟨h1, h2, h3, h4, h5, h6, h7, h8, h9⟩ := ha
  have := hc.r1; have := hc.r2
  unfold firstS
  rw [hx]
  unfold upS firstS
  split <;> split <;> (try split) <;> omega
theorem step_down {a : Ar} (ha : a.ok) {c x : Cu} (hc : c.inn a) (hx : x.inn a) {i : Int} (hi : 0 ≤ i) (hr : x.row = downS a c i) : moveS a x 1 0 = ⟨downS a c (i + 1), x.col, false, x.lab⟩ := by
  have h2 := hx.c1; have h3 := hx.c2; have h4 := row_last hc
  rw [move_dr hx ⟨by omega, by omega⟩ ⟨by omega, by omega⟩]
  have e1 : downS a x 1 = downS a c (i + 1) := by
    unfold downS
    rw [last_down ha hc hi hr, hr]
    unfold downS; omega
  have e2 : rightS a x 0 = x.col := by unfold rightS; omega
  rw [e1, e2]
theorem step_up {a : Ar} (ha : a.ok) {c x : Cu} (hc : c.inn a) (hx : x.inn a) {i : Int} (hi : 0 ≤ i) (hr : x.row = upS a c i) : moveS a x (-1) 0 = ⟨upS a c (i + 1), x.col, false, x.lab⟩ := by
  have h2 := hx.c1; have h3 := hx.c2; have h4 := row_first hc
  have e := move_ul hx (d := 1) (r := 0) ⟨by omega, by omega⟩ ⟨by omega, by omega⟩
  rw [show moveS a x (-1) 0 = moveS a x (-1) (-0) from rfl, e]
  have e1 : upS a x 1 = upS a c (i + 1) := by
    unfold upS
    rw [first_up ha hc hi hr, hr]
    unfold upS; omega
  have e2 : leftS x 0 = x.col := by unfold leftS; omega
  rw [e1, e2]
theorem step_right {a : Ar} {c x : Cu} (hc : c.inn a) (hx : x.inn a) {i : Int} (hi : 0 ≤ i) (hk : x.col = rightS a c i) : moveS a x 0 1 = ⟨x.row, rightS a c (i + 1), false, x.lab⟩ := by
  have h4 := row_last hx; have h5 := hc.c1; have h6 := hc.c2
  rw [move_dr hx ⟨by omega, by omega⟩ ⟨by omega, by omega⟩]
  have e1 : downS a x 0 = x.row := by unfold downS; omega
  have e2 : rightS a x 1 = rightS a c (i + 1) := by
    unfold rightS
    rw [hk]
    unfold rightS; omega
  rw [e1, e2]
theorem step_left {a : Ar} {c x : Cu} (hc : c.inn a) (hx : x.inn a) {i : Int} (hi : 0 ≤ i) (hk : x.col = leftS c i) : moveS a x 0 (-1) = ⟨x.row, leftS c (i + 1), false, x.lab⟩ := by
  have h4 := row_first hx; have h5 := hc.c1; have h6 := hc.c2
  have e := move_ul hx (d := 0) (r := 1) ⟨by omega, by omega⟩ ⟨by omega, by omega⟩
  rw [show moveS a x 0 (-1) = moveS a x (-0) (-1) from rfl, e]
  have e1 : upS a x 0 = x.row := by unfold upS; omega
  have e2 : leftS x 1 = leftS c (i + 1) := by
    unfold leftS
    rw [hk]
    unfold leftS; omega
  rw [e1, e2]
/-- Back again. -/
theorem back_eq {a : Ar} (ha : a.ok) {c : Cu} (hc : c.inn a) {d r : Int} (hd : 0 ≤ d ∧ d ≤ 512) (hr : 0 ≤ r ∧ r ≤ 512) (h1 : downS a c d = c.row + d) (h2 : rightS a c r = c.col + r) (h3 : c.row ≥ a.top ∨ downS a c d < a.top) :
    (moveS a (moveS a c d r) (-d) (-r)).row = c.row ∧ (moveS a (moveS a c d r) (-d) (-r)).col = c.col := by
  have hm := move_inn ha hc d r
  have g1 := hc.r1; have g2 := hc.c1; have g3 := ha.t
  rw [move_ul hm hd hr, move_dr hc hd hr]
  refine ⟨?_, ?_⟩
  · show max (downS a c d - d) (firstS a ⟨downS a c d, _, _, _⟩) = c.row
    unfold firstS
    simp only
    rw [h1] at h3 ⊢
    split <;> omega
  · show max (rightS a c r - r) 0 = c.col
    rw [h2]; omega

def arB (a : Ar) : Option Blk := some (.cells [.int .i64 a.rows, .int .i64 a.cols, .int .i64 a.top, .int .i64 a.bottom, .bool a.org, .int .u8 a.base])
def cuB (c : Cu) : Option Blk := some (.cells [.int .i64 c.row, .int .i64 c.col, .bool c.wrap, .int .u8 c.lab])
theorem ne_cu (a b d : Int) (c : Bool) : (!(a == a && (b == b && (c == c && (d == d && true))))) = false := by simp
theorem eq_cu (a b d : Int) (c : Bool) : (a == a && (b == b && (c == c && (d == d && true)))) = true := by simp
noncomputable def code6 : Code := match Try.f6.body with | some c => c | none => .skip

end Go.Cv
