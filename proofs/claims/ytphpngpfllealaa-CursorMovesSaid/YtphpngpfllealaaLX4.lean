/- What functions of this seat compute, each for every argument of the shapes that are named; no condition beside the stated ones. -/
import Derived.Test.YtphpngpfllealaaLX2
import Derived.Laws.BitsLemmas
namespace Go.Cv
open Go.Proofs
set_option maxRecDepth 100000
set_option maxHeartbeats 4000000

/-! ### Areas and cursors -/
structure Ar where
  rows : Int
  cols : Int
  top : Int
  bottom : Int
  org : Bool
  base : Int
structure Cu where
  row : Int
  col : Int
  wrap : Bool
  lab : Int
def Ar.v (a : Ar) : V := .agg [.int .i64 a.rows, .int .i64 a.cols, .int .i64 a.top, .int .i64 a.bottom, .bool a.org, .int .u8 a.base]
def Cu.v (c : Cu) : V := .agg [.int .i64 c.row, .int .i64 c.col, .bool c.wrap, .int .u8 c.lab]
structure Ar.ok (a : Ar) : Prop where
  r1 : 1 ≤ a.rows
  r2 : a.rows ≤ 512
  c1 : 1 ≤ a.cols
  c2 : a.cols ≤ 512
  t : 0 ≤ a.top
  b : a.bottom < a.rows
  tb : a.top < a.bottom ∨ (a.rows = 1 ∧ a.top = a.bottom)
  l1 : 0 ≤ a.base
  l2 : a.base ≤ 1
structure Cu.inn (c : Cu) (a : Ar) : Prop where
  r1 : 0 ≤ c.row
  r2 : c.row < a.rows
  c1 : 0 ≤ c.col
  c2 : c.col < a.cols
  l1 : a.base ≤ c.lab
  l2 : c.lab ≤ 1
  w : c.wrap = true → c.col = a.cols - 1

def wi (n l m : Int) : Int := max l (min n m)
theorem wi_if (n l m : Int) : (if (if m < n then m else n) > l then (if m < n then m else n) else l) = wi n l m := by unfold wi; split <;> split <;> omega
theorem wr64 {n : Int} (h0 : -9223372036854775808 ≤ n) (h1 : n < 9223372036854775808) : IntKind.i64.wrap n = n := by
  rw [IntKind.wrap_i64]; omega
theorem within_fn (n l m : Int) : Fn Try.prog 41 [.int .i64 n, .int .i64 l, .int .i64 m] (.int .i64 (wi n l m)) := by
  rw [← wi_if]
  exact Fn.of_run tysOk mixed names 10 5 rfl rfl (by kernel_rfl)
theorem rwithin_fn (n l m : Int) : Fn Try.prog 42 [.int .i64 n, .int .i64 l, .int .i64 m] (.int .i64 (wi n l m)) := by
  rw [← wi_if]
  exact Fn.of_run tysOk mixed names 10 5 rfl rfl (by kernel_rfl)

def jn2 (x y : Int) : Int := if x > 0 ∨ y > 0 then 1 else 0
theorem join2_fn (x y : Int) : Fn Try.prog 52 [.psl 1 [[.int .u8 x], [.int .u8 y]] .exact] (.int .u8 (jn2 x y)) := by
  refine Fn.of_body tysOk Try.func52 rfl rfl rfl rfl ?_
  refine Sem.of_body tysOk Try.func54 rfl rfl ?_
  refine LoopP.unroll ?_
  refine BCase.yes rfl ?_
  refine ⟨_, ⟨by decide, rfl⟩, ?_⟩
  refine Sem.of_body tysOk Try.func55 rfl rfl ?_
  refine ⟨fun h => ?_, fun h => ?_⟩
  · have hx : x > 0 := by simpa using h
    refine Sem.of_body tysOk Try.func53 rfl rfl ?_
    refine BCase.yes rfl ?_
    show V.int .u8 1 = _
    rw [show jn2 x y = 1 by simp [jn2, hx]]
  · have hx : ¬ x > 0 := by simpa using h
    refine LoopP.unroll ?_
    refine BCase.yes rfl ?_
    refine ⟨_, ⟨by decide, rfl⟩, ?_⟩
    refine Sem.of_body tysOk Try.func55 rfl rfl ?_
    refine ⟨fun h => ?_, fun h => ?_⟩
    · have hy : y > 0 := by simpa using h
      refine Sem.of_body tysOk Try.func53 rfl rfl ?_
      refine BCase.yes rfl ?_
      show V.int .u8 1 = _
      rw [show jn2 x y = 1 by simp [jn2, hy]]
    · have hy : ¬ y > 0 := by simpa using h
      refine LoopP.unroll ?_
      refine BCase.no rfl ?_
      refine Sem.of_body tysOk Try.func53 rfl rfl ?_
      refine BCase.no rfl ?_
      show V.int .u8 0 = _
      rw [show jn2 x y = 0 by simp only [jn2]; split <;> omega]

def rowS (a : Ar) (p : Int) : Int := if a.org = true then wi (wi p 1 a.rows - 1 + a.top) a.top a.bottom else wi (wi p 1 a.rows - 1) 0 (a.rows - 1)
theorem row_fn (a : Ar) (ha : a.ok) (p : Int) : Fn Try.prog 43 [a.v, .int .i64 p] (.int .i64 (rowS a p)) := by
  obtain ⟨rows, cols, top, bottom, org, base⟩ := a
  obtain ⟨r1, r2, c1, c2, t, b, tb, l1, l2⟩ := ha
  simp only at r1 r2 c1 c2 t b tb l1 l2
  refine Fn.of_body tysOk Try.func43 rfl rfl rfl rfl ?_
  refine DrawP.intro tysOk mixed ?_
  refine ⟨by kernel_rfl, ?_⟩
  cases org
  · refine BCase.no rfl ?_
    refine (within_fn _ _ _).sem _ ?_
    refine (within_fn _ _ _).sem _ ?_
    refine congrArg (V.int .i64) ?_
    simp only [rowS, wi, IntKind.wrap_i64, Bool.false_eq_true, if_false]
    omega
  · refine BCase.yes rfl ?_
    refine DrawP.intro tysOk mixed ?_
    refine ⟨by kernel_rfl, ?_⟩
    refine (within_fn _ _ _).sem _ ?_
    refine (within_fn _ _ _).sem _ ?_
    refine congrArg (V.int .i64) ?_
    simp only [rowS, wi, IntKind.wrap_i64, if_true]
    omega
theorem col_fn (a : Ar) (ha : a.ok) (p : Int) : Fn Try.prog 44 [a.v, .int .i64 p] (.int .i64 (wi p 1 a.cols - 1)) := by
  obtain ⟨rows, cols, top, bottom, org, base⟩ := a
  obtain ⟨r1, r2, c1, c2, t, b, tb, l1, l2⟩ := ha
  simp only at r1 r2 c1 c2 t b tb l1 l2
  refine Fn.of_body tysOk Try.func44 rfl rfl rfl rfl ?_
  refine (within_fn _ _ _).sem _ ?_
  refine congrArg (V.int .i64) ?_
  simp only [wi, IntKind.wrap_i64]
  omega
def firstS (a : Ar) (c : Cu) : Int := if c.row ≥ a.top then a.top else 0
def lastS (a : Ar) (c : Cu) : Int := if c.row ≤ a.bottom then a.bottom else a.rows - 1
theorem ends_fn (a : Ar) (ha : a.ok) (c : Cu) : Fn Try.prog 46 [a.v, c.v] (.tup [.int .i64 (firstS a c), .int .i64 (lastS a c)]) := by
  obtain ⟨rows, cols, top, bottom, org, base⟩ := a
  obtain ⟨row, col, wrap, lab⟩ := c
  obtain ⟨r1, r2, c1, c2, t, b, tb, l1, l2⟩ := ha
  simp only at r1 r2 c1 c2 t b tb l1 l2
  have e : IntKind.i64.wrap (rows - 1) = rows - 1 := wr64 (by omega) (by omega)
  refine Fn.of_body tysOk Try.func46 rfl rfl rfl rfl ?_
  refine ⟨fun h => ?_, fun h => ?_⟩
  · have h : row ≥ top := by simpa using h
    refine ⟨fun g => ?_, fun g => ?_⟩
    · have g : row ≤ bottom := by simpa using g
      show V.tup [.int .i64 top, .int .i64 bottom] = _
      simp [firstS, lastS, h, g]
    · have g : ¬ row ≤ bottom := by simpa using g
      show V.tup [.int .i64 top, .int .i64 (IntKind.i64.wrap (rows - 1))] = _
      simp [firstS, lastS, h, g, e]
  · have h : ¬ row ≥ top := by simpa using h
    refine ⟨fun g => ?_, fun g => ?_⟩
    · have g : row ≤ bottom := by simpa using g
      show V.tup [.int .i64 0, .int .i64 bottom] = _
      simp [firstS, lastS, h, g]
    · have g : ¬ row ≤ bottom := by simpa using g
      show V.tup [.int .i64 0, .int .i64 (IntKind.i64.wrap (rows - 1))] = _
      simp [firstS, lastS, h, g, e]
theorem cu_eq {r r' k k' l l' : Int} {w w' : Bool} (h1 : r = r') (h2 : k = k') (h3 : w = w') (h4 : l = l') : V.agg [.int .i64 r, .int .i64 k, .bool w, .int .u8 l] = (Cu.mk r' k' w' l').v := by subst h1 h2 h3 h4; rfl
def moveS (a : Ar) (c : Cu) (r k : Int) : Cu :=
  ⟨if wi r (-512) 512 > 0 then min (c.row + wi r (-512) 512) (lastS a c) else if wi r (-512) 512 < 0 then max (c.row + wi r (-512) 512) (firstS a c) else c.row, wi (c.col + wi k (-512) 512) 0 (a.cols - 1), false, c.lab⟩
theorem move_fn (a : Ar) (ha : a.ok) (c : Cu) (hc : c.inn a) (r k : Int) : Fn Try.prog 21 [a.v, c.v, .int .i64 r, .int .i64 k] (moveS a c r k).v := by
  have he := ends_fn a ha c
  generalize hr' : wi r (-512) 512 = r'
  have hrb : -512 ≤ r' ∧ r' ≤ 512 := by subst hr'; unfold wi; omega
  have hf : -1000 ≤ lastS a c ∧ lastS a c ≤ 1000 ∧ -1000 ≤ firstS a c ∧ firstS a c ≤ 1000 := by
    have := ha.r1; have := ha.r2; have := ha.t; have := ha.b; have := ha.tb
    unfold lastS firstS; split <;> split <;> omega
  have colE : wi (IntKind.i64.wrap (c.col + wi k (-512) 512)) 0 (IntKind.i64.wrap (a.cols - 1)) = wi (c.col + wi k (-512) 512) 0 (a.cols - 1) := by
    have := hc.c1; have := hc.c2; have := ha.c1; have := ha.c2
    rw [wr64 (by unfold wi; omega) (by unfold wi; omega), wr64 (by omega) (by omega)]
  have hb1 := hc.r1; have hb2 := hc.r2; have hb3 := ha.r2
  refine Fn.of_body tysOk Try.func21 rfl rfl rfl rfl ?_
  refine he.sem _ ?_
  refine DrawP.intro tysOk mixed ?_
  refine ⟨_, within_fn _ _ _, ?_⟩
  refine ⟨_, within_fn _ _ _, ?_⟩
  refine ⟨by kernel_rfl, ?_⟩
  refine Sem.of_body tysOk Try.func47 rfl rfl ?_
  refine LoopP.unroll ?_
  refine BCase.yes rfl ?_
  refine ⟨by decide, ?_⟩
  refine Sem.of_body tysOk Try.func48 rfl rfl ?_
  rw [hr']
  refine ⟨fun h => ?_, fun h => ?_⟩
  · have h : r' > 0 := by simpa using h
    refine DrawP.intro tysOk mixed ?_
    refine ⟨by kernel_rfl, ?_⟩
    refine LoopP.unroll ?_
    refine BCase.yes rfl ?_
    refine ⟨by decide, ?_⟩
    refine Sem.of_body tysOk Try.func49 rfl rfl ?_
    refine DrawP.intro tysOk mixed ?_
    refine ⟨_, within_fn _ _ _, ?_⟩
    refine ⟨by kernel_rfl, ?_⟩
    refine LoopP.unroll ?_
    refine BCase.no rfl ?_
    refine cu_eq ?_ colE rfl rfl
    rw [hr', if_pos h, wr64 (by omega) (by omega)]
    omega
  · have h : ¬ r' > 0 := by simpa using h
    refine ⟨fun g => ?_, fun g => ?_⟩
    · have g : r' < 0 := by simpa using g
      refine DrawP.intro tysOk mixed ?_
      refine ⟨by kernel_rfl, ?_⟩
      refine LoopP.unroll ?_
      refine BCase.yes rfl ?_
      refine ⟨by decide, ?_⟩
      refine Sem.of_body tysOk Try.func49 rfl rfl ?_
      refine DrawP.intro tysOk mixed ?_
      refine ⟨_, within_fn _ _ _, ?_⟩
      refine ⟨by kernel_rfl, ?_⟩
      refine LoopP.unroll ?_
      refine BCase.no rfl ?_
      refine cu_eq ?_ colE rfl rfl
      rw [hr', if_neg h, if_pos g, wr64 (by omega) (by omega)]
      omega
    · have g : ¬ r' < 0 := by simpa using g
      refine LoopP.unroll ?_
      refine BCase.yes rfl ?_
      refine ⟨by decide, ?_⟩
      refine Sem.of_body tysOk Try.func49 rfl rfl ?_
      refine DrawP.intro tysOk mixed ?_
      refine ⟨_, within_fn _ _ _, ?_⟩
      refine ⟨by kernel_rfl, ?_⟩
      refine LoopP.unroll ?_
      refine BCase.no rfl ?_
      refine cu_eq ?_ colE rfl rfl
      rw [hr', if_neg h, if_neg g]

theorem goto_fn (a : Ar) (ha : a.ok) (r k : Int) : Fn Try.prog 19 [a.v, .int .i64 r, .int .i64 k] (Cu.mk (rowS a r) (wi k 1 a.cols - 1) false a.base).v := by
  refine Fn.of_body tysOk Try.func19 rfl rfl rfl rfl ?_
  refine DrawP.intro tysOk mixed ?_
  refine ⟨_, row_fn a ha _, ?_⟩
  refine ⟨_, col_fn a ha _, ?_⟩
  refine ⟨by kernel_rfl, ?_⟩
  rfl
def gotoS (a : Ar) (r k : Int) : Cu := ⟨rowS a r, wi k 1 a.cols - 1, false, a.base⟩
theorem home_fn (a : Ar) (ha : a.ok) : Fn Try.prog 11 [a.v] (gotoS a 1 1).v := by
  refine Fn.of_body tysOk Try.func11 rfl rfl rfl rfl ?_
  refine (goto_fn a ha _ _).sem _ ?_
  rfl
def resizeS (a : Ar) (r k : Int) : Ar := ⟨wi r 1 512, wi k 1 512, 0, wi r 1 512 - 1, a.org, a.base⟩
theorem resize_fn (a : Ar) (r k : Int) : Fn Try.prog 32 [a.v, .int .i64 r, .int .i64 k] (resizeS a r k).v := by
  refine Fn.of_body tysOk Try.func32 rfl rfl rfl rfl ?_
  refine (within_fn _ _ _).sem _ ?_
  refine (within_fn _ _ _).sem _ ?_
  show V.agg [.int .i64 (wi r 1 512), .int .i64 (wi k 1 512), .int .i64 0, .int .i64 (IntKind.i64.wrap (wi r 1 512 - 1)), .bool a.org, .int .u8 a.base] = _
  rw [wr64 (by unfold wi; omega) (by unfold wi; omega)]
  rfl
def newS (r k b : Int) : Ar := resizeS ⟨0, 0, 0, 0, false, b⟩ r k
theorem new_fn (r k b : Int) : Fn Try.prog 9 [.int .i64 r, .int .i64 k, .int .u8 b] (newS r k b).v := by
  refine Fn.of_body tysOk Try.func9 rfl rfl rfl rfl ?_
  refine (resize_fn ⟨0, 0, 0, 0, false, b⟩ _ _).sem _ ?_
  rfl
def marginsS (a : Ar) (t b : Int) : Ar × Bool :=
  if max t 1 ≥ min (if b < 1 then a.rows else b) a.rows then (a, false) else ({ a with top := max t 1 - 1, bottom := min (if b < 1 then a.rows else b) a.rows - 1 }, true)
theorem ar_eq {r r' k k' t t' m m' l l' : Int} {o o' : Bool} (h1 : r = r') (h2 : k = k') (h3 : t = t') (h4 : m = m') (h5 : o = o') (h6 : l = l') : V.agg [.int .i64 r, .int .i64 k, .int .i64 t, .int .i64 m, .bool o, .int .u8 l] = (Ar.mk r' k' t' m' o' l').v := by subst h1 h2 h3 h4 h5 h6; rfl
theorem max_if (t : Int) : (if 1 > t then 1 else t) = max t 1 := by split <;> omega
theorem min_if (x y : Int) : (if y < x then y else x) = min x y := by split <;> omega
theorem margins_fn (a : Ar) (ha : a.ok) (t b : Int) : Fn Try.prog 31 [a.v, .int .i64 t, .int .i64 b] (.tup [(marginsS a t b).1.v, .bool (marginsS a t b).2]) := by
  have r2 := ha.r2
  have r1 := ha.r1
  refine Fn.of_body tysOk Try.func31 rfl rfl rfl (by unfold marginsS; split <;> rfl) ?_
  refine ⟨fun h => ?_, fun h => ?_⟩
  · have h : b < 1 := by simpa using h
    refine DrawP.intro tysOk mixed ?_
    refine ⟨by kernel_rfl, ?_⟩
    have hm : marginsS a t b = if max t 1 ≥ min a.rows a.rows then (a, false) else ({ a with top := max t 1 - 1, bottom := min a.rows a.rows - 1 }, true) := by unfold marginsS; rw [if_pos h]
    rw [max_if, min_if, hm]
    refine ⟨fun g => ?_, fun g => ?_⟩
    · have g : max t 1 ≥ min a.rows a.rows := by simpa using g
      rw [if_pos g]
      rfl
    · have g : ¬ max t 1 ≥ min a.rows a.rows := by simpa using g
      rw [if_neg g]
      show V.tup [V.agg [.int .i64 a.rows, .int .i64 a.cols, .int .i64 (IntKind.i64.wrap (max t 1 - 1)), .int .i64 (IntKind.i64.wrap (min a.rows a.rows - 1)), .bool a.org, .int .u8 a.base], .bool true] = _
      rw [wr64 (by omega) (by omega), wr64 (by omega) (by omega)]
      rfl
  · have h : ¬ b < 1 := by simpa using h
    refine DrawP.intro tysOk mixed ?_
    refine ⟨by kernel_rfl, ?_⟩
    have hm : marginsS a t b = if max t 1 ≥ min b a.rows then (a, false) else ({ a with top := max t 1 - 1, bottom := min b a.rows - 1 }, true) := by unfold marginsS; rw [if_neg h]
    rw [max_if, min_if, hm]
    refine ⟨fun g => ?_, fun g => ?_⟩
    · have g : max t 1 ≥ min b a.rows := by simpa using g
      rw [if_pos g]
      rfl
    · have g : ¬ max t 1 ≥ min b a.rows := by simpa using g
      rw [if_neg g]
      show V.tup [V.agg [.int .i64 a.rows, .int .i64 a.cols, .int .i64 (IntKind.i64.wrap (max t 1 - 1)), .int .i64 (IntKind.i64.wrap (min b a.rows - 1)), .bool a.org, .int .u8 a.base], .bool true] = _
      rw [wr64 (by omega) (by omega), wr64 (by omega) (by omega)]
      rfl
def lineS (a : Ar) (c : Cu) (r : Int) : Cu := ⟨rowS a r, c.col, false, c.lab⟩
theorem line_fn (a : Ar) (ha : a.ok) (c : Cu) (r : Int) : Fn Try.prog 27 [a.v, c.v, .int .i64 r] (lineS a c r).v := by
  refine Fn.of_body tysOk Try.func27 rfl rfl rfl rfl ?_
  refine Sem.of_body tysOk Try.func47 rfl rfl ?_
  refine LoopP.unroll ?_
  refine BCase.yes rfl ?_
  refine ⟨by decide, ?_⟩
  refine Sem.of_body tysOk Try.func51 rfl rfl ?_
  refine (row_fn a ha _).sem _ ?_
  refine LoopP.unroll ?_
  refine BCase.no rfl ?_
  rfl
def colS (a : Ar) (c : Cu) (k : Int) : Cu := ⟨c.row, wi k 1 a.cols - 1, false, c.lab⟩
theorem column_fn (a : Ar) (ha : a.ok) (c : Cu) (k : Int) : Fn Try.prog 26 [a.v, c.v, .int .i64 k] (colS a c k).v := by
  refine Fn.of_body tysOk Try.func26 rfl rfl rfl rfl ?_
  refine Sem.of_body tysOk Try.func47 rfl rfl ?_
  refine LoopP.unroll ?_
  refine BCase.yes rfl ?_
  refine ⟨by decide, ?_⟩
  refine Sem.of_body tysOk Try.func50 rfl rfl ?_
  refine (col_fn a ha _).sem _ ?_
  refine LoopP.unroll ?_
  refine BCase.no rfl ?_
  rfl
def stopS (c : Cu) : Cu := ⟨c.row, c.col, false, c.lab⟩
theorem moved0_fn (c : Cu) : Fn Try.prog 47 [c.v, .nils] (stopS c).v := by
  refine Fn.of_body tysOk Try.func47 rfl rfl rfl rfl ?_
  refine LoopP.unroll ?_
  refine BCase.no rfl ?_
  rfl
def indexS (a : Ar) (c : Cu) : Cu × Bool := if c.row = a.bottom then (stopS c, true) else (moveS a c 1 0, false)
theorem index_fn (a : Ar) (ha : a.ok) (c : Cu) (hc : c.inn a) : Fn Try.prog 28 [a.v, c.v] (.tup [(indexS a c).1.v, .bool (indexS a c).2]) := by
  refine Fn.of_body tysOk Try.func28 rfl rfl rfl (by unfold indexS; split <;> rfl) ?_
  refine ⟨fun h => ?_, fun h => ?_⟩
  · have h : c.row = a.bottom := by simpa using h
    refine (moved0_fn c).sem _ ?_
    show V.tup [(stopS c).v, .bool true] = _
    simp only [indexS, if_pos h]
  · have h : ¬ c.row = a.bottom := by simpa using h
    refine (move_fn a ha c hc 1 0).sem _ ?_
    show V.tup [(moveS a c 1 0).v, .bool false] = _
    simp only [indexS, if_neg h]
def revS (a : Ar) (c : Cu) : Cu × Bool := if c.row = a.top then (stopS c, true) else (moveS a c (-1) 0, false)
theorem reverse_fn (a : Ar) (ha : a.ok) (c : Cu) (hc : c.inn a) : Fn Try.prog 29 [a.v, c.v] (.tup [(revS a c).1.v, .bool (revS a c).2]) := by
  refine Fn.of_body tysOk Try.func29 rfl rfl rfl (by unfold revS; split <;> rfl) ?_
  refine ⟨fun h => ?_, fun h => ?_⟩
  · have h : c.row = a.top := by simpa using h
    refine (moved0_fn c).sem _ ?_
    show V.tup [(stopS c).v, .bool true] = _
    simp only [revS, if_pos h]
  · have h : ¬ c.row = a.top := by simpa using h
    refine (move_fn a ha c hc (-1) 0).sem _ ?_
    show V.tup [(moveS a c (-1) 0).v, .bool false] = _
    simp only [revS, if_neg h]
def labS (c : Cu) (l : Int) : Cu := ⟨c.row, c.col, c.wrap, l⟩
theorem raise1_fn (c : Cu) (x : Int) : Fn Try.prog 30 [c.v, .psl 1 [[.int .u8 x]] .exact] (labS c (jn2 c.lab x)).v := by
  refine Fn.of_body tysOk Try.func30 rfl rfl rfl rfl ?_
  refine LoopP.unroll ?_
  refine BCase.yes rfl ?_
  refine ⟨_, ⟨by decide, rfl⟩, ?_⟩
  refine (join2_fn _ _).sem _ ?_
  refine LoopP.unroll ?_
  refine BCase.no rfl ?_
  rfl
theorem raise2_fn (c : Cu) (x y : Int) : Fn Try.prog 30 [c.v, .psl 1 [[.int .u8 x], [.int .u8 y]] .exact] (labS c (jn2 (jn2 c.lab x) y)).v := by
  refine Fn.of_body tysOk Try.func30 rfl rfl rfl rfl ?_
  refine LoopP.unroll ?_
  refine BCase.yes rfl ?_
  refine ⟨_, ⟨by decide, rfl⟩, ?_⟩
  refine (join2_fn _ _).sem _ ?_
  refine LoopP.unroll ?_
  refine BCase.yes rfl ?_
  refine ⟨_, ⟨by decide, rfl⟩, ?_⟩
  refine (join2_fn _ _).sem _ ?_
  refine LoopP.unroll ?_
  refine BCase.no rfl ?_
  rfl
def withinS (a : Ar) (c : Cu) : Cu := ⟨wi c.row 0 (a.rows - 1), wi c.col 0 (a.cols - 1), c.wrap && (wi c.row 0 (a.rows - 1) == c.row && wi c.col 0 (a.cols - 1) == c.col), jn2 c.lab a.base⟩
theorem withinA_fn (a : Ar) (ha : a.ok) (c : Cu) : Fn Try.prog 17 [a.v, c.v] (withinS a c).v := by
  have e1 : IntKind.i64.wrap (a.rows - 1) = a.rows - 1 := wr64 (by have := ha.r1; omega) (by have := ha.r2; omega)
  have e2 : IntKind.i64.wrap (a.cols - 1) = a.cols - 1 := wr64 (by have := ha.c1; omega) (by have := ha.c2; omega)
  refine Fn.of_body tysOk Try.func17 rfl rfl rfl rfl ?_
  refine DrawP.intro tysOk mixed ?_
  refine ⟨_, within_fn _ _ _, ?_⟩
  refine ⟨_, within_fn _ _ _, ?_⟩
  refine ⟨by kernel_rfl, ?_⟩
  rw [e1, e2]
  refine ⟨fun h => ?_, fun h => ?_⟩
  · refine (raise1_fn ⟨wi c.row 0 (a.rows - 1), wi c.col 0 (a.cols - 1), false, c.lab⟩ _).sem _ ?_
    have h : ¬ wi c.row 0 (a.rows - 1) = c.row ∨ ¬ wi c.col 0 (a.cols - 1) = c.col := by simpa using h
    have h : (wi c.row 0 (a.rows - 1) == c.row && wi c.col 0 (a.cols - 1) == c.col) = false := by rcases h with h | h <;> simp [h]
    exact cu_eq rfl rfl (by rw [h, Bool.and_false]; rfl) rfl
  · refine (raise1_fn ⟨wi c.row 0 (a.rows - 1), wi c.col 0 (a.cols - 1), c.wrap, c.lab⟩ _).sem _ ?_
    have h : (wi c.row 0 (a.rows - 1) == c.row && wi c.col 0 (a.cols - 1) == c.col) = true := by simpa using h
    exact cu_eq rfl rfl (by rw [h, Bool.and_true]; rfl) rfl
def reportS (a : Ar) (c : Cu) : Int × Int := (if a.org = true then max 1 (c.row + 1 - a.top) else c.row + 1, c.col + 1)
theorem report_fn (a : Ar) (ha : a.ok) (c : Cu) (hc : c.inn a) : Fn Try.prog 15 [a.v, c.v] (.tup [.int .i64 (reportS a c).1, .int .i64 (reportS a c).2]) := by
  have h1 := hc.r1; have h2 := hc.r2; have h3 := hc.c1; have h4 := hc.c2; have h5 := ha.r2; have h6 := ha.c2; have h7 := ha.t; have h8 := ha.tb; have h9 := ha.b
  have e1 : IntKind.i64.wrap (c.row + 1) = c.row + 1 := wr64 (by omega) (by omega)
  have e2 : IntKind.i64.wrap (c.col + 1) = c.col + 1 := wr64 (by omega) (by omega)
  have e3 : IntKind.i64.wrap (c.row + 1 - a.top) = c.row + 1 - a.top := wr64 (by omega) (by omega)
  refine Fn.of_body tysOk Try.func15 rfl rfl rfl rfl ?_
  refine ⟨fun h => ?_, fun h => ?_⟩
  · refine DrawP.intro tysOk mixed ?_
    refine ⟨by kernel_rfl, ?_⟩
    show V.tup [.int .i64 (if IntKind.i64.wrap (IntKind.i64.wrap (c.row + 1) - a.top) > 1 then IntKind.i64.wrap (IntKind.i64.wrap (c.row + 1) - a.top) else 1), .int .i64 (IntKind.i64.wrap (c.col + 1))] = _
    rw [e1, e2, e3]
    unfold reportS
    rw [if_pos h, show (if c.row + 1 - a.top > 1 then c.row + 1 - a.top else 1) = max 1 (c.row + 1 - a.top) by split <;> omega]
  · refine DrawP.intro tysOk mixed ?_
    refine ⟨by kernel_rfl, ?_⟩
    show V.tup [.int .i64 (IntKind.i64.wrap (c.row + 1)), .int .i64 (IntKind.i64.wrap (c.col + 1))] = _
    rw [e1, e2]
    unfold reportS
    rw [if_neg (by rw [h]; simp)]
def nearS (n : Int) : Int := if n > 250 then n * 300 else n.tmod 30 - 3
theorem near_fn (n : Int) (h0 : 0 ≤ n) (h1 : n ≤ 255) : Fn Try.prog 35 [.int .u8 n] (.int .i64 (nearS n)) := by
  refine Fn.of_body tysOk Try.func35 rfl rfl rfl rfl ?_
  refine ⟨fun h => ?_, fun h => ?_⟩
  · have h : n > 250 := by simpa using h
    show V.int .i64 (IntKind.i64.wrap (IntKind.i64.wrap n * 300)) = _
    rw [wr64 (n := n) (by omega) (by omega), wr64 (by omega) (by omega), nearS, if_pos h]
  · have h : ¬ n > 250 := by simpa using h
    refine ⟨by decide, ?_⟩
    have e : n.tmod 30 = n % 30 := Int.tmod_eq_emod_of_nonneg h0
    show V.int .i64 (IntKind.i64.wrap (IntKind.i64.wrap (n.tmod 30) - 3)) = _
    rw [wr64 (n := n.tmod 30) (by omega) (by omega), wr64 (by omega) (by omega), nearS, if_neg h]
theorem nearS_bd (n : Int) (h0 : 0 ≤ n) (h1 : n ≤ 255) : -3 ≤ nearS n ∧ nearS n ≤ 76500 := by
  have e : n.tmod 30 = n % 30 := Int.tmod_eq_emod_of_nonneg h0
  unfold nearS
  split <;> omega
end Go.Cv
