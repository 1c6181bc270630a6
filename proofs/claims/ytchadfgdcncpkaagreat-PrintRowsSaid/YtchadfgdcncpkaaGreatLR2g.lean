/- What functions of this seat compute, each for every argument of the shapes that are named; no condition beside the stated ones. -/
import Derived.Test.YtchadfgdcncpkaaGreatLQ2g
import Derived.Test.YtchadfgdcncpkaaGreatLQ0g
import Derived.Laws.BitsLemmas
import Derived.Laws.Bits64
namespace Go.Cx
open Go.Proofs Go.Row
set_option maxRecDepth 100000
set_option maxHeartbeats 4000000
/-! ### Areas and cursors -/
structure Ar where
  rows : Int
  cols : Int
  top : Int
  bottom : Int
  org : Bool
  base : Int
structure Cu where
  row : Int
  col : Int
  wrap : Bool
  lab : Int
def Ar.v (a : Ar) : V := .agg [.int .i64 a.rows, .int .i64 a.cols, .int .i64 a.top, .int .i64 a.bottom, .bool a.org, .int .u8 a.base]
def Cu.v (c : Cu) : V := .agg [.int .i64 c.row, .int .i64 c.col, .bool c.wrap, .int .u8 c.lab]
structure Ar.ok (a : Ar) : Prop where
  r1 : 1 ≤ a.rows
  r2 : a.rows ≤ 512
  c1 : 1 ≤ a.cols
  c2 : a.cols ≤ 512
  t : 0 ≤ a.top
  b : a.bottom < a.rows
  tb : a.top < a.bottom ∨ (a.rows = 1 ∧ a.top = a.bottom)
  l1 : 0 ≤ a.base
  l2 : a.base ≤ 1
structure Cu.inn (c : Cu) (a : Ar) : Prop where
  r1 : 0 ≤ c.row
  r2 : c.row < a.rows
  c1 : 0 ≤ c.col
  c2 : c.col < a.cols
  l1 : a.base ≤ c.lab
  l2 : c.lab ≤ 1
  w : c.wrap = true → c.col = a.cols - 1

def wi (n l m : Int) : Int := max l (min n m)
theorem wi_if (n l m : Int) : (if (if m < n then m else n) > l then (if m < n then m else n) else l) = wi n l m := by unfold wi; split <;> split <;> omega
theorem within_fn (n l m : Int) : Fn Tryz.prog 91 [.int .i64 n, .int .i64 l, .int .i64 m] (.int .i64 (wi n l m)) := by
  rw [← wi_if]
  refine Fn.of_body tysOk md0 Tryz.func91 rfl rfl rfl rfl ?_
  rfl
def rowS (a : Ar) (p : Int) : Int := if a.org = true then wi (wi p 1 a.rows - 1 + a.top) a.top a.bottom else wi (wi p 1 a.rows - 1) 0 (a.rows - 1)
theorem row_fn (a : Ar) (ha : a.ok) (p : Int) : Fn Tryz.prog 83 [a.v, .int .i64 p] (.int .i64 (rowS a p)) := by
  obtain ⟨rows, cols, top, bottom, org, base⟩ := a
  obtain ⟨r1, r2, c1, c2, t, b, tb, l1, l2⟩ := ha
  simp only at r1 r2 c1 c2 t b tb l1 l2
  refine Fn.of_body tysOk md0 Tryz.func83 rfl rfl rfl rfl ?_
  refine DrawP.intro tysOk mixed false ?_
  refine ⟨by kernel_rfl, ?_⟩
  cases org
  · refine BCase.no rfl ?_
    refine (within_fn _ _ _).sem _ ?_
    refine (within_fn _ _ _).sem _ ?_
    refine congrArg (V.int .i64) ?_
    simp only [rowS, wi, IntKind.wrap_i64, Bool.false_eq_true, if_false]
    omega
  · refine BCase.yes rfl ?_
    refine DrawP.intro tysOk mixed false ?_
    refine ⟨by kernel_rfl, ?_⟩
    refine (within_fn _ _ _).sem _ ?_
    refine (within_fn _ _ _).sem _ ?_
    refine congrArg (V.int .i64) ?_
    simp only [rowS, wi, IntKind.wrap_i64, if_true]
    omega
theorem col_fn (a : Ar) (ha : a.ok) (p : Int) : Fn Tryz.prog 84 [a.v, .int .i64 p] (.int .i64 (wi p 1 a.cols - 1)) := by
  obtain ⟨rows, cols, top, bottom, org, base⟩ := a
  obtain ⟨r1, r2, c1, c2, t, b, tb, l1, l2⟩ := ha
  simp only at r1 r2 c1 c2 t b tb l1 l2
  refine Fn.of_body tysOk md0 Tryz.func84 rfl rfl rfl rfl ?_
  refine (within_fn _ _ _).sem _ ?_
  refine congrArg (V.int .i64) ?_
  simp only [wi, IntKind.wrap_i64]
  omega
def firstS (a : Ar) (c : Cu) : Int := if c.row ≥ a.top then a.top else 0
def lastS (a : Ar) (c : Cu) : Int := if c.row ≤ a.bottom then a.bottom else a.rows - 1
theorem ends_fn (a : Ar) (ha : a.ok) (c : Cu) : Fn Tryz.prog 171 [a.v, c.v] (.tup [.int .i64 (firstS a c), .int .i64 (lastS a c)]) := by
  obtain ⟨rows, cols, top, bottom, org, base⟩ := a
  obtain ⟨row, col, wrap, lab⟩ := c
  obtain ⟨r1, r2, c1, c2, t, b, tb, l1, l2⟩ := ha
  simp only at r1 r2 c1 c2 t b tb l1 l2
  have e : IntKind.i64.wrap (rows - 1) = rows - 1 := wri (by omega) (by omega)
  refine Fn.of_body tysOk md0 Tryz.func171 rfl rfl rfl rfl ?_
  refine ⟨fun h => ?_, fun h => ?_⟩
  · have h : row ≥ top := by simpa using h
    refine ⟨fun g => ?_, fun g => ?_⟩
    · have g : row ≤ bottom := by simpa using g
      show V.tup [.int .i64 top, .int .i64 bottom] = _
      simp [firstS, lastS, h, g]
    · have g : ¬ row ≤ bottom := by simpa using g
      show V.tup [.int .i64 top, .int .i64 (IntKind.i64.wrap (rows - 1))] = _
      simp [firstS, lastS, h, g, e]
  · have h : ¬ row ≥ top := by simpa using h
    refine ⟨fun g => ?_, fun g => ?_⟩
    · have g : row ≤ bottom := by simpa using g
      show V.tup [.int .i64 0, .int .i64 bottom] = _
      simp [firstS, lastS, h, g]
    · have g : ¬ row ≤ bottom := by simpa using g
      show V.tup [.int .i64 0, .int .i64 (IntKind.i64.wrap (rows - 1))] = _
      simp [firstS, lastS, h, g, e]
theorem cu_eq {r r' k k' l l' : Int} {w w' : Bool} (h1 : r = r') (h2 : k = k') (h3 : w = w') (h4 : l = l') : V.agg [.int .i64 r, .int .i64 k, .bool w, .int .u8 l] = (Cu.mk r' k' w' l').v := by subst h1 h2 h3 h4; rfl
def moveS (a : Ar) (c : Cu) (r k : Int) : Cu :=
  ⟨if wi r (-512) 512 > 0 then min (c.row + wi r (-512) 512) (lastS a c) else if wi r (-512) 512 < 0 then max (c.row + wi r (-512) 512) (firstS a c) else c.row, wi (c.col + wi k (-512) 512) 0 (a.cols - 1), false, c.lab⟩
theorem move_fn (a : Ar) (ha : a.ok) (c : Cu) (hc : c.inn a) (r k : Int) : Fn Tryz.prog 159 [a.v, c.v, .int .i64 r, .int .i64 k] (moveS a c r k).v := by
  have he := ends_fn a ha c
  generalize hr' : wi r (-512) 512 = r'
  have hrb : -512 ≤ r' ∧ r' ≤ 512 := by subst hr'; unfold wi; omega
  have hf : -1000 ≤ lastS a c ∧ lastS a c ≤ 1000 ∧ -1000 ≤ firstS a c ∧ firstS a c ≤ 1000 := by
    have := ha.r1; have := ha.r2; have := ha.t; have := ha.b; have := ha.tb
    unfold lastS firstS; split <;> split <;> omega
  have colE : wi (IntKind.i64.wrap (c.col + wi k (-512) 512)) 0 (IntKind.i64.wrap (a.cols - 1)) = wi (c.col + wi k (-512) 512) 0 (a.cols - 1) := by
    have := hc.c1; have := hc.c2; have := ha.c1; have := ha.c2
    rw [wri (by unfold wi; omega) (by unfold wi; omega), wri (by omega) (by omega)]
  have hb1 := hc.r1; have hb2 := hc.r2; have hb3 := ha.r2
  refine Fn.of_body tysOk md0 Tryz.func159 rfl rfl rfl rfl ?_
  refine he.sem _ ?_
  refine DrawP.intro tysOk mixed false ?_
  refine ⟨_, (within_fn _ _ _).callT _ _, ?_⟩
  refine ⟨_, (within_fn _ _ _).callT _ _, ?_⟩
  refine ⟨by kernel_rfl, ?_⟩
  refine Sem.of_body tysOk md0 Tryz.func158 rfl rfl ?_
  refine LoopP.unroll ?_
  refine BCase.yes rfl ?_
  refine gdP rfl ?_
  refine Sem.of_body tysOk md0 Tryz.func172 rfl rfl ?_
  rw [hr']
  refine ⟨fun h => ?_, fun h => ?_⟩
  · have h : r' > 0 := by simpa using h
    refine DrawP.intro tysOk mixed false ?_
    refine ⟨by kernel_rfl, ?_⟩
    refine LoopP.unroll ?_
    refine BCase.yes rfl ?_
    refine gdP rfl ?_
    refine Sem.of_body tysOk md0 Tryz.func173 rfl rfl ?_
    refine DrawP.intro tysOk mixed false ?_
    refine ⟨_, (within_fn _ _ _).callT _ _, ?_⟩
    refine ⟨by kernel_rfl, ?_⟩
    refine LoopP.unroll ?_
    refine BCase.no rfl ?_
    refine cu_eq ?_ colE rfl rfl
    rw [hr', if_pos h, wri (by omega) (by omega)]
    omega
  · have h : ¬ r' > 0 := by simpa using h
    refine ⟨fun g => ?_, fun g => ?_⟩
    · have g : r' < 0 := by simpa using g
      refine DrawP.intro tysOk mixed false ?_
      refine ⟨by kernel_rfl, ?_⟩
      refine LoopP.unroll ?_
      refine BCase.yes rfl ?_
      refine gdP rfl ?_
      refine Sem.of_body tysOk md0 Tryz.func173 rfl rfl ?_
      refine DrawP.intro tysOk mixed false ?_
      refine ⟨_, (within_fn _ _ _).callT _ _, ?_⟩
      refine ⟨by kernel_rfl, ?_⟩
      refine LoopP.unroll ?_
      refine BCase.no rfl ?_
      refine cu_eq ?_ colE rfl rfl
      rw [hr', if_neg h, if_pos g, wri (by omega) (by omega)]
      omega
    · have g : ¬ r' < 0 := by simpa using g
      refine LoopP.unroll ?_
      refine BCase.yes rfl ?_
      refine gdP rfl ?_
      refine Sem.of_body tysOk md0 Tryz.func173 rfl rfl ?_
      refine DrawP.intro tysOk mixed false ?_
      refine ⟨_, (within_fn _ _ _).callT _ _, ?_⟩
      refine ⟨by kernel_rfl, ?_⟩
      refine LoopP.unroll ?_
      refine BCase.no rfl ?_
      refine cu_eq ?_ colE rfl rfl
      rw [hr', if_neg h, if_neg g]

theorem goto_fn (a : Ar) (ha : a.ok) (r k : Int) : Fn Tryz.prog 49 [a.v, .int .i64 r, .int .i64 k] (Cu.mk (rowS a r) (wi k 1 a.cols - 1) false a.base).v := by
  refine Fn.of_body tysOk md0 Tryz.func49 rfl rfl rfl rfl ?_
  refine DrawP.intro tysOk mixed false ?_
  refine ⟨_, (row_fn a ha _).callT _ _, ?_⟩
  refine ⟨_, (col_fn a ha _).callT _ _, ?_⟩
  refine ⟨by kernel_rfl, ?_⟩
  rfl
def gotoS (a : Ar) (r k : Int) : Cu := ⟨rowS a r, wi k 1 a.cols - 1, false, a.base⟩
theorem home_fn (a : Ar) (ha : a.ok) : Fn Tryz.prog 18 [a.v] (gotoS a 1 1).v := by
  refine Fn.of_body tysOk md0 Tryz.func18 rfl rfl rfl rfl ?_
  refine (goto_fn a ha _ _).sem _ ?_
  rfl
def resizeS (a : Ar) (r k : Int) : Ar := ⟨wi r 1 512, wi k 1 512, 0, wi r 1 512 - 1, a.org, a.base⟩
theorem resize_fn (a : Ar) (r k : Int) : Fn Tryz.prog 75 [a.v, .int .i64 r, .int .i64 k] (resizeS a r k).v := by
  refine Fn.of_body tysOk md0 Tryz.func75 rfl rfl rfl rfl ?_
  refine (within_fn _ _ _).sem _ ?_
  refine (within_fn _ _ _).sem _ ?_
  show V.agg [.int .i64 (wi r 1 512), .int .i64 (wi k 1 512), .int .i64 0, .int .i64 (IntKind.i64.wrap (wi r 1 512 - 1)), .bool a.org, .int .u8 a.base] = _
  rw [wri (by unfold wi; omega) (by unfold wi; omega)]
  rfl
def newS (r k b : Int) : Ar := resizeS ⟨0, 0, 0, 0, false, b⟩ r k
theorem new_fn (r k b : Int) : Fn Tryz.prog 34 [.int .i64 r, .int .i64 k, .int .u8 b] (newS r k b).v := by
  refine Fn.of_body tysOk md0 Tryz.func34 rfl rfl rfl rfl ?_
  refine (resize_fn ⟨0, 0, 0, 0, false, b⟩ _ _).sem _ ?_
  rfl
def marginsS (a : Ar) (t b : Int) : Ar × Bool :=
  if max t 1 ≥ min (if b < 1 then a.rows else b) a.rows then (a, false) else ({ a with top := max t 1 - 1, bottom := min (if b < 1 then a.rows else b) a.rows - 1 }, true)
theorem ar_eq {r r' k k' t t' m m' l l' : Int} {o o' : Bool} (h1 : r = r') (h2 : k = k') (h3 : t = t') (h4 : m = m') (h5 : o = o') (h6 : l = l') : V.agg [.int .i64 r, .int .i64 k, .int .i64 t, .int .i64 m, .bool o, .int .u8 l] = (Ar.mk r' k' t' m' o' l').v := by subst h1 h2 h3 h4 h5 h6; rfl
theorem max_if (t : Int) : (if 1 > t then 1 else t) = max t 1 := by split <;> omega
theorem min_if (x y : Int) : (if y < x then y else x) = min x y := by split <;> omega
theorem margins_fn (a : Ar) (ha : a.ok) (t b : Int) : Fn Tryz.prog 86 [a.v, .int .i64 t, .int .i64 b] (.tup [(marginsS a t b).1.v, .bool (marginsS a t b).2]) := by
  have r2 := ha.r2
  have r1 := ha.r1
  refine Fn.of_body tysOk md0 Tryz.func86 rfl rfl rfl (by unfold marginsS; split <;> rfl) ?_
  refine ⟨fun h => ?_, fun h => ?_⟩
  · have h : b < 1 := by simpa using h
    refine DrawP.intro tysOk mixed false ?_
    refine ⟨by kernel_rfl, ?_⟩
    have hm : marginsS a t b = if max t 1 ≥ min a.rows a.rows then (a, false) else ({ a with top := max t 1 - 1, bottom := min a.rows a.rows - 1 }, true) := by unfold marginsS; rw [if_pos h]
    rw [max_if, min_if, hm]
    refine ⟨fun g => ?_, fun g => ?_⟩
    · have g : max t 1 ≥ min a.rows a.rows := by simpa using g
      rw [if_pos g]
      rfl
    · have g : ¬ max t 1 ≥ min a.rows a.rows := by simpa using g
      rw [if_neg g]
      show V.tup [V.agg [.int .i64 a.rows, .int .i64 a.cols, .int .i64 (IntKind.i64.wrap (max t 1 - 1)), .int .i64 (IntKind.i64.wrap (min a.rows a.rows - 1)), .bool a.org, .int .u8 a.base], .bool true] = _
      rw [wri (by omega) (by omega), wri (by omega) (by omega)]
      rfl
  · have h : ¬ b < 1 := by simpa using h
    refine DrawP.intro tysOk mixed false ?_
    refine ⟨by kernel_rfl, ?_⟩
    have hm : marginsS a t b = if max t 1 ≥ min b a.rows then (a, false) else ({ a with top := max t 1 - 1, bottom := min b a.rows - 1 }, true) := by unfold marginsS; rw [if_neg h]
    rw [max_if, min_if, hm]
    refine ⟨fun g => ?_, fun g => ?_⟩
    · have g : max t 1 ≥ min b a.rows := by simpa using g
      rw [if_pos g]
      rfl
    · have g : ¬ max t 1 ≥ min b a.rows := by simpa using g
      rw [if_neg g]
      show V.tup [V.agg [.int .i64 a.rows, .int .i64 a.cols, .int .i64 (IntKind.i64.wrap (max t 1 - 1)), .int .i64 (IntKind.i64.wrap (min b a.rows - 1)), .bool a.org, .int .u8 a.base], .bool true] = _
      rw [wri (by omega) (by omega), wri (by omega) (by omega)]
      rfl
def stopS (c : Cu) : Cu := ⟨c.row, c.col, false, c.lab⟩
theorem moved0_fn (c : Cu) : Fn Tryz.prog 158 [c.v, .nils] (stopS c).v := by
  refine Fn.of_body tysOk md0 Tryz.func158 rfl rfl rfl rfl ?_
  refine LoopP.unroll ?_
  refine BCase.no rfl ?_
  rfl
def indexS (a : Ar) (c : Cu) : Cu × Bool := if c.row = a.bottom then (stopS c, true) else (moveS a c 1 0, false)
theorem index_fn (a : Ar) (ha : a.ok) (c : Cu) (hc : c.inn a) : Fn Tryz.prog 140 [a.v, c.v] (.tup [(indexS a c).1.v, .bool (indexS a c).2]) := by
  refine Fn.of_body tysOk md0 Tryz.func140 rfl rfl rfl (by unfold indexS; split <;> rfl) ?_
  refine ⟨fun h => ?_, fun h => ?_⟩
  · have h : c.row = a.bottom := by simpa using h
    refine (moved0_fn c).sem _ ?_
    show V.tup [(stopS c).v, .bool true] = _
    simp only [indexS, if_pos h]
  · have h : ¬ c.row = a.bottom := by simpa using h
    refine (move_fn a ha c hc 1 0).sem _ ?_
    show V.tup [(moveS a c 1 0).v, .bool false] = _
    simp only [indexS, if_neg h]
def labS (c : Cu) (l : Int) : Cu := ⟨c.row, c.col, c.wrap, l⟩
theorem raise1_fn (c : Cu) (x : Int) : Fn Tryz.prog 92 [c.v, .psl 1 [[.int .u8 x]] .exact] (labS c (join2 c.lab x)).v := by
  refine Fn.of_body tysOk md0 Tryz.func92 rfl rfl rfl rfl ?_
  refine LoopP.unroll ?_
  refine BCase.yes rfl ?_
  refine ⟨_, ⟨by decide, rfl⟩, ?_⟩
  refine (join2_fn _ _).sem _ ?_
  refine LoopP.unroll ?_
  refine BCase.no rfl ?_
  rfl
theorem raise2_fn (c : Cu) (x y : Int) : Fn Tryz.prog 92 [c.v, .psl 1 [[.int .u8 x], [.int .u8 y]] .exact] (labS c (join2 (join2 c.lab x) y)).v := by
  refine Fn.of_body tysOk md0 Tryz.func92 rfl rfl rfl rfl ?_
  refine LoopP.unroll ?_
  refine BCase.yes rfl ?_
  refine ⟨_, ⟨by decide, rfl⟩, ?_⟩
  refine (join2_fn _ _).sem _ ?_
  refine LoopP.unroll ?_
  refine BCase.yes rfl ?_
  refine ⟨_, ⟨by decide, rfl⟩, ?_⟩
  refine (join2_fn _ _).sem _ ?_
  refine LoopP.unroll ?_
  refine BCase.no rfl ?_
  rfl
def withinS (a : Ar) (c : Cu) : Cu := ⟨wi c.row 0 (a.rows - 1), wi c.col 0 (a.cols - 1), c.wrap && (wi c.row 0 (a.rows - 1) == c.row && wi c.col 0 (a.cols - 1) == c.col), join2 c.lab a.base⟩
theorem withinA_fn (a : Ar) (ha : a.ok) (c : Cu) : Fn Tryz.prog 56 [a.v, c.v] (withinS a c).v := by
  have e1 : IntKind.i64.wrap (a.rows - 1) = a.rows - 1 := wri (by have := ha.r1; omega) (by have := ha.r2; omega)
  have e2 : IntKind.i64.wrap (a.cols - 1) = a.cols - 1 := wri (by have := ha.c1; omega) (by have := ha.c2; omega)
  refine Fn.of_body tysOk md0 Tryz.func56 rfl rfl rfl rfl ?_
  refine DrawP.intro tysOk mixed false ?_
  refine ⟨_, (within_fn _ _ _).callT _ _, ?_⟩
  refine ⟨_, (within_fn _ _ _).callT _ _, ?_⟩
  refine ⟨by kernel_rfl, ?_⟩
  rw [e1, e2]
  refine ⟨fun h => ?_, fun h => ?_⟩
  · refine (raise1_fn ⟨wi c.row 0 (a.rows - 1), wi c.col 0 (a.cols - 1), false, c.lab⟩ _).sem _ ?_
    have h : ¬ wi c.row 0 (a.rows - 1) = c.row ∨ ¬ wi c.col 0 (a.cols - 1) = c.col := by simpa using h
    have h : (wi c.row 0 (a.rows - 1) == c.row && wi c.col 0 (a.cols - 1) == c.col) = false := by rcases h with h | h <;> simp [h]
    exact cu_eq rfl rfl (by rw [h, Bool.and_false]; rfl) rfl
  · refine (raise1_fn ⟨wi c.row 0 (a.rows - 1), wi c.col 0 (a.cols - 1), c.wrap, c.lab⟩ _).sem _ ?_
    have h : (wi c.row 0 (a.rows - 1) == c.row && wi c.col 0 (a.cols - 1) == c.col) = true := by simpa using h
    exact cu_eq rfl rfl (by rw [h, Bool.and_true]; rfl) rfl
end Go.Cx
namespace Go.Cx
open Go.Proofs Go.Row
set_option maxRecDepth 100000
set_option maxHeartbeats 4000000
structure Md where
  p : Bool
  n : Int
  deriving DecidableEq
def Md.v (x : Md) : V := .agg [.bool x.p, .int .i64 x.n]
def wV (m : Int) : V := .agg [.int .u16 m]
/-! ### The table of modes -/
def keyT : List (Bool × Int × Nat) := [(false, 4, 0), (false, 20, 1), (true, 1, 2), (true, 5, 3), (true, 6, 4), (true, 7, 5), (true, 25, 6), (true, 47, 7), (true, 1004, 8), (true, 1047, 7), (true, 1048, 9), (true, 1049, 7), (true, 2004, 10)]
def kV (e : Bool × Int × Nat) : V := .agg [.bool e.1, .int .i64 e.2.1]
def bV (e : Bool × Int × Nat) : V := .int .u16 ((2 ^ e.2.2 : Nat) : Int)
def bitsB : Blk := .mapc (keyT.map fun e => (kV e, bV e)) 13
def hit (x : Md) (e : Bool × Int × Nat) : Bool := x.p == e.1 && (x.n == e.2.1 && true)
theorem eq_key (x : Md) (e : Bool × Int × Nat) : eqV TT 12 64 x.v (kV e) = some (hit x e) := rfl
theorem hits (x : Md) : ∀ l : List (Bool × Int × Nat), hitsV TT 64 x.v (l.map fun e => (kV e, bV e)) = some ((l.filter (hit x)).map bV)
  | [] => rfl
  | e :: l => by
    simp only [List.map_cons, hitsV, eq_key, hits x l]
    cases h : hit x e <;> simp [h]
def kOf (x : Md) : Option Nat := ((keyT.filter (hit x)).head?).map fun e => e.2.2
theorem hit_one (x : Md) : keyT.filter (hit x) = [] ∨ ∃ e, keyT.filter (hit x) = [e] ∧ e ∈ keyT ∧ x = ⟨e.1, e.2.1⟩ := by
  by_cases h : ∃ e ∈ keyT, hit x e = true
  · obtain ⟨e, he, hx⟩ := h
    right
    unfold hit at hx
    simp only [Bool.and_eq_true, beq_iff_eq, and_true] at hx
    obtain ⟨p, n⟩ := x
    simp only at hx
    obtain ⟨rfl, rfl⟩ := hx
    refine ⟨e, ?_, he, rfl⟩
    simp only [keyT, List.mem_cons, List.not_mem_nil, or_false] at he
    rcases he with rfl | rfl | rfl | rfl | rfl | rfl | rfl | rfl | rfl | rfl | rfl | rfl | rfl <;> rfl
  · left
    rw [List.filter_eq_nil_iff]
    intro e he
    exact fun hx => h ⟨e, he, hx⟩
theorem kOf_cases (x : Md) : kOf x = none ∨ ∃ e ∈ keyT, x = ⟨e.1, e.2.1⟩ ∧ kOf x = some e.2.2 := by
  rcases hit_one x with h | ⟨e, h, he, hx⟩
  · left; unfold kOf; rw [h]; rfl
  · right; exact ⟨e, he, hx, by unfold kOf; rw [h]; rfl⟩
def bOf (x : Md) : BitVec 16 := match kOf x with | some k => BitVec.twoPow 16 k | none => 0
def known (x : Md) : Bool := (kOf x).isSome
theorem hitF_bits (x : Md) : hitF TT 64 x.v (some bitsB) = some ((kOf x).map fun _ => .int .u16 ((bOf x).toNat : Int)) := by
  unfold hitF bitsB
  simp only [hits]
  rcases hit_one x with h | ⟨e, h, he, hx⟩
  · have hk : kOf x = none := by unfold kOf; rw [h]; rfl
    rw [h, hk]; rfl
  · have hk : kOf x = some e.2.2 := by unfold kOf; rw [h]; rfl
    have hb : bOf x = BitVec.twoPow 16 e.2.2 := by unfold bOf; rw [hk]
    rw [h, hk, hb]
    simp only [keyT, List.mem_cons, List.not_mem_nil, or_false] at he
    rcases he with rfl | rfl | rfl | rfl | rfl | rfl | rfl | rfl | rfl | rfl | rfl | rfl | rfl <;> rfl
theorem look_ok {md : Bool} {ev : Operand → V} {hg : Nat → Option Blk} {nid id : Nat} {m k : Operand} (x : Md) (hm : ev m = .map id) (hk : ev k = x.v) (hb : hg id = some bitsB) : opF Tryz.prog TT md ev hg nid (.lookup 162 m k true) = some ⟨true, .tup [.int .u16 ((bOf x).toNat : Int), .bool (known x)], [], [id], 0⟩ := by
  have e61 : TT 162 = some ⟨.map 64 89, 1, 8, .nilm⟩ := rfl
  have e27 : TT 89 = some ⟨.int .u16, 1, 2, .int .u16 0⟩ := rfl
  have ek : keyOk TT 64 x.v = true := rfl
  simp only [opF, hm, hk, lookupF, e61, e27, hb, hitF_bits, ek]
  unfold known
  cases hx : kOf x with
  | none =>
    have : bOf x = 0 := by unfold bOf; rw [hx]
    rw [this]; rfl
  | some b => rfl
theorem look_ok1 {md : Bool} {ev : Operand → V} {hg : Nat → Option Blk} {nid id : Nat} {m k : Operand} (x : Md) (hm : ev m = .map id) (hk : ev k = x.v) (hb : hg id = some bitsB) : opF Tryz.prog TT md ev hg nid (.lookup 162 m k false) = some ⟨true, .int .u16 ((bOf x).toNat : Int), [], [id], 0⟩ := by
  have e61 : TT 162 = some ⟨.map 64 89, 1, 8, .nilm⟩ := rfl
  have e27 : TT 89 = some ⟨.int .u16, 1, 2, .int .u16 0⟩ := rfl
  have ek : keyOk TT 64 x.v = true := rfl
  simp only [opF, hm, hk, lookupF, e61, e27, hb, hitF_bits, ek]
  cases hx : kOf x with
  | none =>
    have : bOf x = 0 := by unfold bOf; rw [hx]
    rw [this]; rfl
  | some b => rfl
theorem bits_callT (h : Heap) : CallT (CallR Tryz.prog 90) [] h 2 ⟨.map 2, [(2, bitsB)], [2], 1, none⟩ := by
  have hn : ∀ i k, ¬ hget [none, none] i = some k := fun i k hk => by
    match i, hk with
    | 0, hk => cases hk
    | 1, hk => cases hk
    | i + 2, hk => simp [hget] at hk
  refine ⟨rfl, [none, none], rfl, fun i k hk => absurd hk (hn i k), fun p hp => ?_, ⟨rfl, fun i k hk => absurd hk (hn i k), rfl, fun i k hk => ?_, fun p hp => ?_⟩, Sem.fr (Sem.of_body tysOk md0 Tryz.func90 rfl rfl (DrawP.intro tysOk mixed false ⟨by kernel_rfl, rfl, rfl⟩))⟩
  · simp at hp; subst hp; simp
  · match i, hk with
    | 0, hk => cases hk
    | 1, hk => cases hk
    | 2, hk => cases hk; rfl
    | i + 3, hk => simp [hget, applyW] at hk
  · simp at hp
    subst hp
    exact .inl ⟨show 2 ≤ 2 by omega, show 2 < 3 by omega⟩
/-! ### Words of sixteen bits -/
theorem wru16 {n : Int} (h0 : 0 ≤ n) (h1 : n < 65536) : IntKind.u16.wrap n = n := by
  have : IntKind.u16.wrap n = n % 65536 := by simp [IntKind.wrap, IntKind.bits, IntKind.signed]
  rw [this]; omega
theorem ofI16 (a : BitVec 16) : BitVec.ofInt IntKind.u16.bits (a.toNat : Int) = a := by
  show BitVec.ofInt 16 (a.toNat : Int) = a
  rw [BitVec.ofInt_natCast]
  simp
theorem toN16 (a : BitVec 16) : IntKind.u16.wrap (a.toNat : Int) = (a.toNat : Int) := by
  have := a.isLt
  exact wru16 (by omega) (by omega)
theorem and16 (a b : BitVec 16) : IntKind.u16.wrap ↑(BitVec.ofInt IntKind.u16.bits (a.toNat : Int) &&& BitVec.ofInt IntKind.u16.bits (b.toNat : Int)).toNat = ((a &&& b).toNat : Int) := by
  rw [ofI16, ofI16]; exact toN16 (a &&& b)
theorem or16 (a b : BitVec 16) : IntKind.u16.wrap ↑(BitVec.ofInt IntKind.u16.bits (a.toNat : Int) ||| BitVec.ofInt IntKind.u16.bits (b.toNat : Int)).toNat = ((a ||| b).toNat : Int) := by
  rw [ofI16, ofI16]; exact toN16 (a ||| b)
theorem andn16 (a b : BitVec 16) : IntKind.u16.wrap ↑(BitVec.ofInt IntKind.u16.bits (a.toNat : Int) &&& ~~~ BitVec.ofInt IntKind.u16.bits (b.toNat : Int)).toNat = ((a &&& ~~~ b).toNat : Int) := by
  rw [ofI16, ofI16]; exact toN16 (a &&& ~~~ b)
theorem nz16 (a : BitVec 16) : ((a.toNat : Int) != 0) = decide (a ≠ 0) := by
  by_cases h : a = 0
  · subst h; rfl
  · have : a.toNat ≠ 0 := fun e => h (BitVec.eq_of_toNat_eq (by rw [e]; rfl))
    have h2 : (a.toNat : Int) ≠ 0 := by omega
    rw [bne_iff_ne.2 h2, decide_eq_true h]
def stateOf (m : BitVec 16) (x : Md) : Int := if known x then (if m &&& bOf x = 0 then 2 else 1) else 0
theorem mState (m : BitVec 16) (x : Md) : Fn Tryz.prog 139 [wV m.toNat, x.v] (.int .i64 (stateOf m x)) := by
  refine Fn.of_body tysOk md0 Tryz.func139 rfl rfl rfl rfl ?_
  refine DrawP.intro tysOk mixed false ?_
  refine ⟨_, bits_callT _, ?_⟩
  refine ⟨_, _, look_ok x rfl rfl rfl, ?_⟩
  refine ⟨by kernel_rfl, ?_⟩
  unfold stateOf
  refine ⟨fun h => ?_, fun h => ?_⟩
  · rw [if_neg (by simpa using h)]; rfl
  · rw [if_pos (by simpa using h)]
    refine ⟨fun h2 => ?_, fun h2 => ?_⟩
    · rw [and16, nz16] at h2
      rw [if_neg (of_decide_eq_true h2)]; rfl
    · rw [and16, nz16] at h2
      rw [if_pos (by simpa using h2)]; rfl
def isOf (m : BitVec 16) (x : Md) : Bool := stateOf m x == 1
theorem mIs (m : BitVec 16) (x : Md) : Fn Tryz.prog 103 [wV m.toNat, x.v] (.bool (isOf m x)) := by
  refine Fn.of_body tysOk md0 Tryz.func103 rfl rfl rfl rfl ?_
  refine (mState m x).sem _ ?_
  rfl
theorem bits_callT1 (h : Heap) : CallT (CallR Tryz.prog 90) [] h 1 ⟨.map 1, [(1, bitsB)], [1], 1, none⟩ := by
  have hn : ∀ i k, ¬ hget [none] i = some k := fun i k hk => by
    match i, hk with
    | 0, hk => cases hk
    | i + 1, hk => simp [hget] at hk
  refine ⟨rfl, [none], rfl, fun i k hk => absurd hk (hn i k), fun p hp => ?_, ⟨rfl, fun i k hk => absurd hk (hn i k), rfl, fun i k hk => ?_, fun p hp => ?_⟩, Sem.fr (Sem.of_body tysOk md0 Tryz.func90 rfl rfl (DrawP.intro tysOk mixed false ⟨by kernel_rfl, rfl, rfl⟩))⟩
  · simp at hp; subst hp; simp
  · match i, hk with
    | 0, hk => cases hk
    | 1, hk => cases hk; rfl
    | i + 2, hk => simp [hget, applyW] at hk
  · simp at hp
    subst hp
    exact .inl ⟨show 1 ≤ 1 by omega, show 1 < 2 by omega⟩
theorem eq16 (a b : BitVec 16) : ((a.toNat : Int) == (b.toNat : Int)) = (a == b) := by
  rw [Bool.eq_iff_iff, beq_iff_eq, beq_iff_eq]
  exact ⟨fun h => BitVec.eq_of_toNat_eq (by omega), fun h => by rw [h]⟩
theorem mNew : Fn Tryz.prog 38 [] (wV 96) := by
  refine Fn.of_body tysOk md0 Tryz.func38 rfl rfl rfl rfl ?_
  rfl
/-! ### Put -/
def putB (on : Bool) (m b : BitVec 16) : BitVec 16 := if on then (m &&& ~~~ b) ||| b else m &&& ~~~ b
def putS (on : Bool) (s : BitVec 16 × Nat) (x : Md) : BitVec 16 × Nat := if known x then (putB on s.1 (bOf x), s.2 + 1) else s
def putOf (on : Bool) (m : BitVec 16) (l : List Md) : BitVec 16 × Nat := l.foldl (putS on) (m, 0)
def mdC (x : Md) : List V := [.bool x.p, .int .i64 x.n]
def mdsV (l : List Md) : List (List V) := l.map mdC
theorem mdsV_len (l : List Md) : (mdsV l).length = l.length := by simp [mdsV]
theorem mdsV_get {l : List Md} {i : Nat} {x : Md} (h : l[i]? = some x) : (mdsV l)[i]? = some (mdC x) := by simp [mdsV, h]
def wB (m : Int) : Option Blk := some (.cells 91 [.int .u16 m])
def envP (m0 : Int) (on : Bool) (l : List Md) (k i : Int) : List V := wV m0 :: .bool on :: .psl 2 (mdsV l) .any :: .ptr 0 0 :: .undef :: .undef :: .ptr 1 0 :: .int .i64 0 :: .int .i64 k :: .map 2 :: .undef :: .undef :: .undef :: .undef :: .undef :: .psl 2 (mdsV l) .any :: .int .i64 (mdsV l).length :: .int .i64 i :: List.replicate 27 .undef
def hpP (m : BitVec 16) : Heap := [wB m.toNat, wB 0, some bitsB]
theorem wrsM (c d : Nat) (h : c + d < 2000000) : ((c + d : Nat) : Int) = IntKind.i64.wrap ((c : Int) + (d : Nat)) := by rw [wri] <;> omega
theorem drop_fold {α β : Type} (f : β → α → β) (l : List α) (i : Nat) (c : α) (h : l[i]? = some c) (m : β) : (l.drop i).foldl f m = (l.drop (i + 1)).foldl f (f m c) := by
  obtain ⟨hl, he⟩ := List.getElem?_eq_some_iff.1 h
  rw [List.drop_eq_getElem_cons hl, he, List.foldl_cons]
theorem mPut (on : Bool) (m : BitVec 16) (l : List Md) (hl : l.length < 1000000) : Fn Tryz.prog 55 [wV m.toNat, .bool on, .psl 2 (mdsV l) .any] (.tup [wV (putOf on m l).1.toNat, .int .i64 ((putOf on m l).2 : Nat)]) := by
  have hlen := mdsV_len l
  refine Fn.of_body tysOk md0 Tryz.func55 rfl rfl rfl rfl ?_
  refine Sem.of_body tysOk md0 Tryz.func90 rfl rfl (DrawP.intro tysOk mixed false ⟨by kernel_rfl, ?_⟩)
  refine LoopP.inv (md := md0) (fun k env h => ∃ (i q : Nat) (w : BitVec 16), k = l.length - i ∧ i ≤ l.length ∧ q ≤ i ∧ (l.drop i).foldl (putS on) (w, q) = putOf on m l ∧ env = envP m.toNat on l q i ∧ h = hpP w) l.length ⟨envP m.toNat on l 0 0, _, .same (by repeat (first | exact trivial | refine ⟨.inl rfl, ?_⟩ | refine ⟨.inr rfl, ?_⟩)) rfl, 0, 0, m, rfl, Nat.zero_le _, Nat.le_refl _, rfl, rfl, rfl⟩ ?_
  rintro k _ _ ⟨i, q, w, rfl, hi, hq, hf, rfl, rfl⟩
  refine ⟨fun h => ?_, fun h => ?_⟩
  · have hi' : i < l.length := by have := of_decide_eq_true h; omega
    obtain ⟨x, hx⟩ : ∃ x, l[i]? = some x := ⟨_, List.getElem?_eq_getElem hi'⟩
    rw [drop_fold _ _ _ _ hx] at hf
    refine ⟨mdC x, ⟨by omega, mdsV_get hx⟩, ?_⟩
    refine ⟨_, _, look_ok x rfl rfl rfl, ?_⟩
    refine ⟨fun hk => ?_, fun hk => ?_⟩
    · have hst : putS on (w, q) x = (w, q) := by unfold putS; rw [if_neg (by simpa using hk)]
      rw [hst] at hf
      refine ⟨l.length - (i + 1), envP m.toNat on l q (i + 1 : Nat), hpP w, by omega, .cut ?_ (by show 3 ≤ 3; omega) rfl rfl, i + 1, q, w, rfl, hi', by omega, hf, rfl, rfl⟩
      refine ⟨.inl rfl, .inl rfl, .inl rfl, .inl rfl, .inl rfl, .inl rfl, .inl rfl, .inl rfl, .inl rfl, .inl rfl, .inl rfl, .inr rfl, .inr rfl, .inr rfl, .inr rfl, .inl rfl, .inl rfl, .inl ?_, ?_⟩
      · exact congrArg (V.int .i64) (wrsM i 1 (by omega))
      · repeat (first | exact trivial | refine ⟨.inl rfl, ?_⟩ | refine ⟨.inr rfl, ?_⟩)
    · have hk' : known x = true := by simpa using hk
      have hw1 := andn16 w (bOf x)
      have hw2 := or16 (w &&& ~~~ bOf x) (bOf x)
      refine ⟨fun ho => ?_, fun ho => ?_⟩
      · have hst : putS on (w, q) x = ((w &&& ~~~ bOf x) ||| bOf x, q + 1) := by unfold putS putB; rw [if_pos hk', if_pos ho]
        rw [hst] at hf
        refine ⟨l.length - (i + 1), envP m.toNat on l (q + 1 : Nat) (i + 1 : Nat), hpP ((w &&& ~~~ bOf x) ||| bOf x), by omega, .cut ?_ (by show 3 ≤ 3; omega) ?_ rfl, i + 1, q + 1, _, rfl, hi', by omega, hf, rfl, rfl⟩
        · refine ⟨.inl rfl, .inl rfl, .inl rfl, .inl rfl, .inl rfl, .inl rfl, .inl rfl, .inl rfl, .inl ?_, .inl rfl, .inl rfl, .inr rfl, .inr rfl, .inr rfl, .inr rfl, .inl rfl, .inl rfl, .inl ?_, ?_⟩
          · exact congrArg (V.int .i64) (wrsM q 1 (by omega))
          · exact congrArg (V.int .i64) (wrsM i 1 (by omega))
          · repeat (first | exact trivial | refine ⟨.inl rfl, ?_⟩ | refine ⟨.inr rfl, ?_⟩)
        · exact congrArg (fun z => [wB z, wB 0, some bitsB]) ((congrArg (fun z => IntKind.u16.wrap ↑(BitVec.ofInt IntKind.u16.bits z ||| BitVec.ofInt IntKind.u16.bits ((bOf x).toNat : Int)).toNat) hw1).trans hw2).symm
      · have hst : putS on (w, q) x = (w &&& ~~~ bOf x, q + 1) := by unfold putS putB; rw [if_pos hk', if_neg (by rw [ho]; simp)]
        rw [hst] at hf
        refine ⟨l.length - (i + 1), envP m.toNat on l (q + 1 : Nat) (i + 1 : Nat), hpP (w &&& ~~~ bOf x), by omega, .cut ?_ (by show 3 ≤ 3; omega) ?_ rfl, i + 1, q + 1, _, rfl, hi', by omega, hf, rfl, rfl⟩
        · refine ⟨.inl rfl, .inl rfl, .inl rfl, .inl rfl, .inl rfl, .inl rfl, .inl rfl, .inl rfl, .inl ?_, .inl rfl, .inl rfl, .inr rfl, .inr rfl, .inr rfl, .inr rfl, .inl rfl, .inl rfl, .inl ?_, ?_⟩
          · exact congrArg (V.int .i64) (wrsM q 1 (by omega))
          · exact congrArg (V.int .i64) (wrsM i 1 (by omega))
          · repeat (first | exact trivial | refine ⟨.inl rfl, ?_⟩ | refine ⟨.inr rfl, ?_⟩)
        · exact congrArg (fun z => [wB z, wB 0, some bitsB]) hw1.symm
  · have hi' : i = l.length := by have := of_decide_eq_false h; omega
    subst hi'
    rw [List.drop_length] at hf
    have hf' : (w, q) = putOf on m l := hf
    rw [← hf']
    rfl
end Go.Cx
namespace Go.Cx
open Go.Proofs Go.Row
set_option maxRecDepth 100000
set_option maxHeartbeats 4000000
/-! ### Tab stops: bits, by columns -/
structure Tb where
  w : Nat → Nat
  cols : Int
  lab : Int
  base : Int
def Tb.cs (t : Tb) : List V := [.int .u64 (t.w 0 : Nat), .int .u64 (t.w 1 : Nat), .int .u64 (t.w 2 : Nat), .int .u64 (t.w 3 : Nat), .int .u64 (t.w 4 : Nat), .int .u64 (t.w 5 : Nat), .int .u64 (t.w 6 : Nat), .int .u64 (t.w 7 : Nat), .int .i64 t.cols, .int .u8 t.lab, .int .u8 t.base]
def Tb.v (t : Tb) : V := .agg t.cs
def upd (w : Nat → Nat) (i x : Nat) : Nat → Nat := fun j => if j = i then x else w j
/-! ### Words -/
theorem wru {n : Int} (h0 : 0 ≤ n) (h1 : n < 18446744073709551616) : IntKind.u64.wrap n = n := by
  rw [IntKind.wrap_u64]; omega
theorem td64 (c : Nat) (hc : c < 512) : IntKind.i64.wrap ((c : Int).tdiv 64) = ((c / 64 : Nat) : Int) := by
  have : (c : Int).tdiv 64 = ((c / 64 : Nat) : Int) := by rw [Int.tdiv_eq_ediv_of_nonneg (by omega)]; rfl
  rw [this, wri] <;> omega
theorem tm64 (c : Nat) : ((c : Int).tmod 64) = ((c % 64 : Nat) : Int) := by
  rw [Int.tmod_eq_emod_of_nonneg (by omega)]; rfl

def bitW (c : Nat) : BitVec 64 := BitVec.ofNat 64 (2 ^ (c % 64))
def clrW (x c : Nat) : Nat := (BitVec.ofNat 64 x &&& ~~~ bitW c).toNat
def setW (x c : Nat) : Nat := (BitVec.ofNat 64 x ||| bitW c).toNat
def getW (x c : Nat) : Bool := x.testBit (c % 64)

theorem pow_min (c : Nat) : IntKind.u64.wrap (1 * 2 ^ min ((c : Int).tmod 64).toNat IntKind.u64.bits) = ((2 ^ (c % 64) : Nat) : Int) := by
  have hb : IntKind.u64.bits = 64 := rfl
  have hlt : c % 64 < 64 := Nat.mod_lt _ (by omega)
  rw [tm64, hb, Int.toNat_natCast, Nat.min_eq_left (by omega), Int.one_mul]
  have h2 : ((2 : Int) ^ (c % 64)) = ((2 ^ (c % 64) : Nat) : Int) := by simp
  rw [h2]
  refine wru (Int.natCast_nonneg _) ?_
  have : 2 ^ (c % 64) < 2 ^ 64 := Nat.pow_lt_pow_right (by omega) hlt
  omega
theorem bv_nat (x : Nat) : BitVec.ofInt IntKind.u64.bits (x : Int) = BitVec.ofNat 64 x := BitVec.ofInt_natCast 64 x
theorem clr_eq (x c : Nat) : IntKind.u64.wrap (BitVec.ofInt IntKind.u64.bits (x : Int) &&& ~~~ BitVec.ofInt IntKind.u64.bits (IntKind.u64.wrap (1 * 2 ^ min ((c : Int).tmod 64).toNat IntKind.u64.bits))).toNat = ((clrW x c : Nat) : Int) := by
  rw [pow_min, bv_nat, bv_nat]
  have h : (BitVec.ofNat 64 x &&& ~~~ bitW c).toNat < 18446744073709551616 := (BitVec.ofNat 64 x &&& ~~~ bitW c).isLt
  exact wru (Int.natCast_nonneg _) (Int.ofNat_lt.2 h)
theorem set_eq (x c : Nat) : IntKind.u64.wrap (BitVec.ofInt IntKind.u64.bits (x : Int) ||| BitVec.ofInt IntKind.u64.bits (IntKind.u64.wrap (1 * 2 ^ min ((c : Int).tmod 64).toNat IntKind.u64.bits))).toNat = ((setW x c : Nat) : Int) := by
  rw [pow_min, bv_nat, bv_nat]
  have h : (BitVec.ofNat 64 x ||| bitW c).toNat < 18446744073709551616 := (BitVec.ofNat 64 x ||| bitW c).isLt
  exact wru (Int.natCast_nonneg _) (Int.ofNat_lt.2 h)
theorem clrW_lt (x c : Nat) : clrW x c < 2 ^ 64 := BitVec.isLt _
theorem setW_lt (x c : Nat) : setW x c < 2 ^ 64 := BitVec.isLt _
theorem clrW_bit (x c b : Nat) (hb : b < 64) : (clrW x c).testBit b = (x.testBit b && !decide (b = c % 64)) := by
  unfold clrW bitW
  rw [← BitVec.getLsbD, BitVec.getLsbD_and, BitVec.getLsbD_not, BitVec.getLsbD_ofNat, BitVec.getLsbD_ofNat, Nat.testBit_two_pow]
  have hlt : c % 64 < 64 := Nat.mod_lt _ (by omega)
  simp [hb, eq_comm]
theorem setW_bit (x c b : Nat) (hb : b < 64) : (setW x c).testBit b = (x.testBit b || decide (b = c % 64)) := by
  unfold setW bitW
  rw [← BitVec.getLsbD, BitVec.getLsbD_or, BitVec.getLsbD_ofNat, BitVec.getLsbD_ofNat, Nat.testBit_two_pow]
  simp [hb, eq_comm]
/-! ### Bits, by columns -/
def bit (w : Nat → Nat) (c : Nat) : Bool := (w (c / 64)).testBit (c % 64)
def clr (w : Nat → Nat) (c : Nat) : Nat → Nat := upd w (c / 64) (clrW (w (c / 64)) c)
def sett (w : Nat → Nat) (c : Nat) : Nat → Nat := upd w (c / 64) (setW (w (c / 64)) c)
theorem clr_bit (w : Nat → Nat) (c d : Nat) : bit (clr w c) d = (bit w d && !decide (d = c)) := by
  have hlt : d % 64 < 64 := Nat.mod_lt _ (by omega)
  unfold bit clr upd
  by_cases h : d / 64 = c / 64
  · rw [if_pos h, clrW_bit _ _ _ hlt, h]
    congr 2
    simp only [decide_eq_decide]
    omega
  · rw [if_neg h]
    have : ¬ d = c := fun e => h (by rw [e])
    simp [this]
theorem sett_bit (w : Nat → Nat) (c d : Nat) : bit (sett w c) d = (bit w d || decide (d = c)) := by
  have hlt : d % 64 < 64 := Nat.mod_lt _ (by omega)
  unfold bit sett upd
  by_cases h : d / 64 = c / 64
  · rw [if_pos h, setW_bit _ _ _ hlt, h]
    congr 1
    simp only [decide_eq_decide]
    omega
  · rw [if_neg h]
    have : ¬ d = c := fun e => h (by rw [e])
    simp [this]
def okW (w : Nat → Nat) : Prop := ∀ i, w i < 2 ^ 64
theorem clr_ok {w : Nat → Nat} (h : okW w) (c : Nat) : okW (clr w c) := fun i => by
  unfold clr upd
  split
  · exact clrW_lt _ _
  · exact h i
theorem sett_ok {w : Nat → Nat} (h : okW w) (c : Nat) : okW (sett w c) := fun i => by
  unfold sett upd
  split
  · exact setW_lt _ _
  · exact h i
theorem words_ext {w u : Nat → Nat} (hw : okW w) (hu : okW u) {n : Nat} (h : ∀ c, c < 64 * n → bit w c = bit u c) : ∀ i, i < n → w i = u i := fun i hi => by
  apply Nat.eq_of_testBit_eq
  intro b
  rcases Nat.lt_or_ge b 64 with hb | hb
  · have := h (64 * i + b) (by omega)
    unfold bit at this
    rw [show (64 * i + b) / 64 = i by omega, show (64 * i + b) % 64 = b by omega] at this
    exact this
  · rw [Nat.testBit_lt_two_pow (Nat.lt_of_lt_of_le (hw i) (Nat.pow_le_pow_right (by omega) hb)), Nat.testBit_lt_two_pow (Nat.lt_of_lt_of_le (hu i) (Nat.pow_le_pow_right (by omega) hb))]
def clampN (n : Int) : Nat := (max 0 (min n 512)).toNat
theorem clamp_eq (n : Int) : (if (if 512 < n then 512 else n) > 0 then if 512 < n then 512 else n else 0) = ((clampN n : Nat) : Int) := by
  unfold clampN
  split <;> split <;> omega
def clrN (w : Nat → Nat) (a : Nat) : Nat → (Nat → Nat)
  | 0 => w
  | n + 1 => clrN (clr w a) (a + 1) n
def setN (w : Nat → Nat) (a : Nat) : Nat → (Nat → Nat)
  | 0 => w
  | n + 1 => setN (sett w a) (a + 8) n
structure Tb.ok (t : Tb) : Prop where
  c0 : 0 ≤ t.cols
  c1 : t.cols ≤ 512
  w : okW t.w
def Tb.n (t : Tb) : Nat := t.cols.toNat
def fromN (was : Nat) : Nat := max 8 ((was + 7) / 8 * 8)
def resizeW (t : Tb) (cl : Nat) : Nat → Nat := setN (clrN t.w cl (t.n - cl)) (fromN t.n) ((cl - fromN t.n + 7) / 8)
def Tb.resize (t : Tb) (n : Int) : Tb := ⟨resizeW t (clampN n), (clampN n : Nat), t.lab, t.base⟩
def envR1 (t : Tb) (n c : Int) : List V := t.v :: .int .i64 n :: .ptr 0 0 :: .undef :: .ptr 1 0 :: .int .i64 t.cols :: .int .i64 c :: List.replicate 48 .undef
def envR2 (t : Tb) (n c : Int) : List V := t.v :: .int .i64 n :: .ptr 0 0 :: .undef :: .ptr 1 0 :: .int .i64 t.cols :: .undef :: .int .i64 c :: List.replicate 47 .undef
def hpR (m : Nat → Nat) (cols lab base : Int) : Heap := [some (.cells 88 (Tb.cs ⟨m, cols, lab, base⟩)), some (.cells 88 [.int .u64 0, .int .u64 0, .int .u64 0, .int .u64 0, .int .u64 0, .int .u64 0, .int .u64 0, .int .u64 0, .int .i64 0, .int .u8 0, .int .u8 0])]
theorem wrsT (c d : Nat) (h : c + d < 1000) : ((c + d : Nat) : Int) = IntKind.i64.wrap ((c : Int) + (d : Nat)) := by rw [wri] <;> omega
theorem split8 {i : Nat} (h : i < 8) : i = 0 ∨ i = 1 ∨ i = 2 ∨ i = 3 ∨ i = 4 ∨ i = 5 ∨ i = 6 ∨ i = 7 := by omega

theorem resize_from (was : Nat) (h : was ≤ 512) : (if IntKind.i64.wrap (IntKind.i64.wrap ((IntKind.i64.wrap (IntKind.i64.wrap ((was : Int) + 8) - 1)).tdiv 8) * 8) > 8 then IntKind.i64.wrap (IntKind.i64.wrap ((IntKind.i64.wrap (IntKind.i64.wrap ((was : Int) + 8) - 1)).tdiv 8) * 8) else 8) = ((fromN was : Nat) : Int) := by
  rw [wri (n := (was : Int) + 8) (by omega) (by omega), wri (n := (was : Int) + 8 - 1) (by omega) (by omega)]
  have : ((was : Int) + 8 - 1).tdiv 8 = (((was + 7) / 8 : Nat) : Int) := by rw [Int.tdiv_eq_ediv_of_nonneg (by omega)]; omega
  rw [this, wri (n := (((was + 7) / 8 : Nat) : Int)) (by omega) (by omega), wri (by omega) (by omega)]
  unfold fromN
  split <;> omega

theorem tResize (t : Tb) (ht : t.ok) (n : Int) : Fn Tryz.prog 78 [t.v, .int .i64 n] (t.resize n).v := by
  have hc0 := ht.c0
  have hc1 := ht.c1
  have hcl : clampN n ≤ 512 := by unfold clampN; omega
  obtain ⟨was, hwas⟩ : ∃ was : Nat, t.cols = (was : Int) := ⟨t.cols.toNat, by omega⟩
  have hn : t.n = was := by unfold Tb.n; omega
  refine Fn.of_body tysOk md0 Tryz.func78 rfl rfl rfl rfl ?_
  refine LoopP.inv (md := md0) (fun k env h => ∃ (c : Nat) (m : Nat → Nat), k = was - c ∧ clrN m c (was - c) = clrN t.w (clampN n) (was - clampN n) ∧ env = envR1 t (clampN n : Nat) c ∧ h = hpR m t.cols t.lab t.base) (was - clampN n) ⟨envR1 t (clampN n : Nat) (clampN n : Nat), _, .same ?_ rfl, clampN n, t.w, rfl, rfl, rfl, rfl⟩ ?_
  · rw [← clamp_eq]
    repeat (first | exact trivial | refine ⟨.inl rfl, ?_⟩ | refine ⟨.inr rfl, ?_⟩)
  rintro k _ _ ⟨c, m, rfl, hm, rfl, rfl⟩
  refine ⟨fun h => ?_, fun h => ?_⟩
  · have hc : c < was := by have := of_decide_eq_true h; omega
    have e1 := td64 c (by omega)
    have hm' : clrN (clr m c) (c + 1) (was - (c + 1)) = clrN t.w (clampN n) (was - clampN n) := by
      rw [← hm, show was - c = (was - (c + 1)) + 1 by omega]; rfl
    rcases split8 (show c / 64 < 8 by omega) with hi | hi | hi | hi | hi | hi | hi | hi
    · rw [hi] at e1
      refine DrawP.intro tysOk mixed false ?_
      refine gdP (by rw [e1]; rfl) ?_
      rw [e1]
      refine ⟨by kernel_rfl, ?_⟩
      refine ⟨was - (c + 1), envR1 t (clampN n : Nat) (c + 1 : Nat), hpR (upd m 0 (clrW (m 0) c)) t.cols t.lab t.base, ?_, .same ?_ ?_, c + 1, upd m 0 (clrW (m 0) c), ?_⟩
      · omega
      · refine ⟨.inl rfl, .inl rfl, .inl rfl, .inl rfl, .inl rfl, .inl rfl, .inl ?_, ?_⟩
        · exact congrArg (V.int .i64) (wrsT c 1 (by omega))
        · repeat (first | exact trivial | refine ⟨.inl rfl, ?_⟩ | refine ⟨.inr rfl, ?_⟩)
      · exact congrArg (fun x => [some (Blk.cells 88 (V.int .u64 x :: _)), _]) (clr_eq (m 0) c).symm
      · rw [show upd m 0 (clrW (m 0) c) = clr m c by unfold clr; rw [hi]]
        exact ⟨rfl, hm', rfl, rfl⟩
    · rw [hi] at e1
      refine DrawP.intro tysOk mixed false ?_
      refine gdP (by rw [e1]; rfl) ?_
      rw [e1]
      refine ⟨by kernel_rfl, ?_⟩
      refine ⟨was - (c + 1), envR1 t (clampN n : Nat) (c + 1 : Nat), hpR (upd m 1 (clrW (m 1) c)) t.cols t.lab t.base, ?_, .same ?_ ?_, c + 1, upd m 1 (clrW (m 1) c), ?_⟩
      · omega
      · refine ⟨.inl rfl, .inl rfl, .inl rfl, .inl rfl, .inl rfl, .inl rfl, .inl ?_, ?_⟩
        · exact congrArg (V.int .i64) (wrsT c 1 (by omega))
        · repeat (first | exact trivial | refine ⟨.inl rfl, ?_⟩ | refine ⟨.inr rfl, ?_⟩)
      · exact congrArg (fun x => [some (Blk.cells 88 (_ :: V.int .u64 x :: _)), _]) (clr_eq (m 1) c).symm
      · rw [show upd m 1 (clrW (m 1) c) = clr m c by unfold clr; rw [hi]]
        exact ⟨rfl, hm', rfl, rfl⟩
    · rw [hi] at e1
      refine DrawP.intro tysOk mixed false ?_
      refine gdP (by rw [e1]; rfl) ?_
      rw [e1]
      refine ⟨by kernel_rfl, ?_⟩
      refine ⟨was - (c + 1), envR1 t (clampN n : Nat) (c + 1 : Nat), hpR (upd m 2 (clrW (m 2) c)) t.cols t.lab t.base, ?_, .same ?_ ?_, c + 1, upd m 2 (clrW (m 2) c), ?_⟩
      · omega
      · refine ⟨.inl rfl, .inl rfl, .inl rfl, .inl rfl, .inl rfl, .inl rfl, .inl ?_, ?_⟩
        · exact congrArg (V.int .i64) (wrsT c 1 (by omega))
        · repeat (first | exact trivial | refine ⟨.inl rfl, ?_⟩ | refine ⟨.inr rfl, ?_⟩)
      · exact congrArg (fun x => [some (Blk.cells 88 (_ :: _ :: V.int .u64 x :: _)), _]) (clr_eq (m 2) c).symm
      · rw [show upd m 2 (clrW (m 2) c) = clr m c by unfold clr; rw [hi]]
        exact ⟨rfl, hm', rfl, rfl⟩
    · rw [hi] at e1
      refine DrawP.intro tysOk mixed false ?_
      refine gdP (by rw [e1]; rfl) ?_
      rw [e1]
      refine ⟨by kernel_rfl, ?_⟩
      refine ⟨was - (c + 1), envR1 t (clampN n : Nat) (c + 1 : Nat), hpR (upd m 3 (clrW (m 3) c)) t.cols t.lab t.base, ?_, .same ?_ ?_, c + 1, upd m 3 (clrW (m 3) c), ?_⟩
      · omega
      · refine ⟨.inl rfl, .inl rfl, .inl rfl, .inl rfl, .inl rfl, .inl rfl, .inl ?_, ?_⟩
        · exact congrArg (V.int .i64) (wrsT c 1 (by omega))
        · repeat (first | exact trivial | refine ⟨.inl rfl, ?_⟩ | refine ⟨.inr rfl, ?_⟩)
      · exact congrArg (fun x => [some (Blk.cells 88 (_ :: _ :: _ :: V.int .u64 x :: _)), _]) (clr_eq (m 3) c).symm
      · rw [show upd m 3 (clrW (m 3) c) = clr m c by unfold clr; rw [hi]]
        exact ⟨rfl, hm', rfl, rfl⟩
    · rw [hi] at e1
      refine DrawP.intro tysOk mixed false ?_
      refine gdP (by rw [e1]; rfl) ?_
      rw [e1]
      refine ⟨by kernel_rfl, ?_⟩
      refine ⟨was - (c + 1), envR1 t (clampN n : Nat) (c + 1 : Nat), hpR (upd m 4 (clrW (m 4) c)) t.cols t.lab t.base, ?_, .same ?_ ?_, c + 1, upd m 4 (clrW (m 4) c), ?_⟩
      · omega
      · refine ⟨.inl rfl, .inl rfl, .inl rfl, .inl rfl, .inl rfl, .inl rfl, .inl ?_, ?_⟩
        · exact congrArg (V.int .i64) (wrsT c 1 (by omega))
        · repeat (first | exact trivial | refine ⟨.inl rfl, ?_⟩ | refine ⟨.inr rfl, ?_⟩)
      · exact congrArg (fun x => [some (Blk.cells 88 (_ :: _ :: _ :: _ :: V.int .u64 x :: _)), _]) (clr_eq (m 4) c).symm
      · rw [show upd m 4 (clrW (m 4) c) = clr m c by unfold clr; rw [hi]]
        exact ⟨rfl, hm', rfl, rfl⟩
    · rw [hi] at e1
      refine DrawP.intro tysOk mixed false ?_
      refine gdP (by rw [e1]; rfl) ?_
      rw [e1]
      refine ⟨by kernel_rfl, ?_⟩
      refine ⟨was - (c + 1), envR1 t (clampN n : Nat) (c + 1 : Nat), hpR (upd m 5 (clrW (m 5) c)) t.cols t.lab t.base, ?_, .same ?_ ?_, c + 1, upd m 5 (clrW (m 5) c), ?_⟩
      · omega
      · refine ⟨.inl rfl, .inl rfl, .inl rfl, .inl rfl, .inl rfl, .inl rfl, .inl ?_, ?_⟩
        · exact congrArg (V.int .i64) (wrsT c 1 (by omega))
        · repeat (first | exact trivial | refine ⟨.inl rfl, ?_⟩ | refine ⟨.inr rfl, ?_⟩)
      · exact congrArg (fun x => [some (Blk.cells 88 (_ :: _ :: _ :: _ :: _ :: V.int .u64 x :: _)), _]) (clr_eq (m 5) c).symm
      · rw [show upd m 5 (clrW (m 5) c) = clr m c by unfold clr; rw [hi]]
        exact ⟨rfl, hm', rfl, rfl⟩
    · rw [hi] at e1
      refine DrawP.intro tysOk mixed false ?_
      refine gdP (by rw [e1]; rfl) ?_
      rw [e1]
      refine ⟨by kernel_rfl, ?_⟩
      refine ⟨was - (c + 1), envR1 t (clampN n : Nat) (c + 1 : Nat), hpR (upd m 6 (clrW (m 6) c)) t.cols t.lab t.base, ?_, .same ?_ ?_, c + 1, upd m 6 (clrW (m 6) c), ?_⟩
      · omega
      · refine ⟨.inl rfl, .inl rfl, .inl rfl, .inl rfl, .inl rfl, .inl rfl, .inl ?_, ?_⟩
        · exact congrArg (V.int .i64) (wrsT c 1 (by omega))
        · repeat (first | exact trivial | refine ⟨.inl rfl, ?_⟩ | refine ⟨.inr rfl, ?_⟩)
      · exact congrArg (fun x => [some (Blk.cells 88 (_ :: _ :: _ :: _ :: _ :: _ :: V.int .u64 x :: _)), _]) (clr_eq (m 6) c).symm
      · rw [show upd m 6 (clrW (m 6) c) = clr m c by unfold clr; rw [hi]]
        exact ⟨rfl, hm', rfl, rfl⟩
    · rw [hi] at e1
      refine DrawP.intro tysOk mixed false ?_
      refine gdP (by rw [e1]; rfl) ?_
      rw [e1]
      refine ⟨by kernel_rfl, ?_⟩
      refine ⟨was - (c + 1), envR1 t (clampN n : Nat) (c + 1 : Nat), hpR (upd m 7 (clrW (m 7) c)) t.cols t.lab t.base, ?_, .same ?_ ?_, c + 1, upd m 7 (clrW (m 7) c), ?_⟩
      · omega
      · refine ⟨.inl rfl, .inl rfl, .inl rfl, .inl rfl, .inl rfl, .inl rfl, .inl ?_, ?_⟩
        · exact congrArg (V.int .i64) (wrsT c 1 (by omega))
        · repeat (first | exact trivial | refine ⟨.inl rfl, ?_⟩ | refine ⟨.inr rfl, ?_⟩)
      · exact congrArg (fun x => [some (Blk.cells 88 (_ :: _ :: _ :: _ :: _ :: _ :: _ :: V.int .u64 x :: _)), _]) (clr_eq (m 7) c).symm
      · rw [show upd m 7 (clrW (m 7) c) = clr m c by unfold clr; rw [hi]]
        exact ⟨rfl, hm', rfl, rfl⟩
  have hge : was ≤ c := by have := of_decide_eq_false h; omega
  have hmw : m = clrN t.w (clampN n) (was - clampN n) := by rw [← hm, show was - c = 0 by omega]; rfl
  refine LoopP.inv (md := md0) (fun k env h => ∃ (c : Nat) (m2 : Nat → Nat), k = clampN n - c ∧ c ≤ 520 ∧ setN m2 c ((clampN n - c + 7) / 8) = resizeW t (clampN n) ∧ env = envR2 t (clampN n : Nat) c ∧ h = hpR m2 (clampN n : Nat) t.lab t.base) (clampN n - fromN was) ⟨envR2 t (clampN n : Nat) (fromN was : Nat), _, .same ?_ rfl, fromN was, m, rfl, ?_, ?_, rfl, rfl⟩ ?_
  · rw [← resize_from was (by omega), ← hwas]
    repeat (first | exact trivial | refine ⟨.inl rfl, ?_⟩ | refine ⟨.inr rfl, ?_⟩)
  · unfold fromN; omega
  · rw [hmw]; unfold resizeW; rw [hn]
  rintro k _ _ ⟨c, m, rfl, hc520, hm2, rfl, rfl⟩
  refine ⟨fun h => ?_, fun h => ?_⟩
  · have hc : c < clampN n := by have := of_decide_eq_true h; omega
    have e1 := td64 c (by omega)
    have hm' : setN (sett m c) (c + 8) ((clampN n - (c + 8) + 7) / 8) = resizeW t (clampN n) := by
      rw [← hm2, show (clampN n - c + 7) / 8 = (clampN n - (c + 8) + 7) / 8 + 1 by omega]; rfl
    rcases split8 (show c / 64 < 8 by omega) with hi | hi | hi | hi | hi | hi | hi | hi
    · rw [hi] at e1
      refine DrawP.intro tysOk mixed false ?_
      refine gdP (by rw [e1]; rfl) ?_
      rw [e1]
      refine ⟨by kernel_rfl, ?_⟩
      refine ⟨clampN n - (c + 8), envR2 t (clampN n : Nat) (c + 8 : Nat), hpR (upd m 0 (setW (m 0) c)) (clampN n : Nat) t.lab t.base, ?_, .same ?_ ?_, c + 8, upd m 0 (setW (m 0) c), ?_⟩
      · omega
      · refine ⟨.inl rfl, .inl rfl, .inl rfl, .inl rfl, .inl rfl, .inl rfl, .inl rfl, .inl ?_, ?_⟩
        · exact congrArg (V.int .i64) (wrsT c 8 (by omega))
        · repeat (first | exact trivial | refine ⟨.inl rfl, ?_⟩ | refine ⟨.inr rfl, ?_⟩)
      · exact congrArg (fun x => [some (Blk.cells 88 (V.int .u64 x :: _)), _]) (set_eq (m 0) c).symm
      · rw [show upd m 0 (setW (m 0) c) = sett m c by unfold sett; rw [hi]]
        exact ⟨rfl, by omega, hm', rfl, rfl⟩
    · rw [hi] at e1
      refine DrawP.intro tysOk mixed false ?_
      refine gdP (by rw [e1]; rfl) ?_
      rw [e1]
      refine ⟨by kernel_rfl, ?_⟩
      refine ⟨clampN n - (c + 8), envR2 t (clampN n : Nat) (c + 8 : Nat), hpR (upd m 1 (setW (m 1) c)) (clampN n : Nat) t.lab t.base, ?_, .same ?_ ?_, c + 8, upd m 1 (setW (m 1) c), ?_⟩
      · omega
      · refine ⟨.inl rfl, .inl rfl, .inl rfl, .inl rfl, .inl rfl, .inl rfl, .inl rfl, .inl ?_, ?_⟩
        · exact congrArg (V.int .i64) (wrsT c 8 (by omega))
        · repeat (first | exact trivial | refine ⟨.inl rfl, ?_⟩ | refine ⟨.inr rfl, ?_⟩)
      · exact congrArg (fun x => [some (Blk.cells 88 (_ :: V.int .u64 x :: _)), _]) (set_eq (m 1) c).symm
      · rw [show upd m 1 (setW (m 1) c) = sett m c by unfold sett; rw [hi]]
        exact ⟨rfl, by omega, hm', rfl, rfl⟩
    · rw [hi] at e1
      refine DrawP.intro tysOk mixed false ?_
      refine gdP (by rw [e1]; rfl) ?_
      rw [e1]
      refine ⟨by kernel_rfl, ?_⟩
      refine ⟨clampN n - (c + 8), envR2 t (clampN n : Nat) (c + 8 : Nat), hpR (upd m 2 (setW (m 2) c)) (clampN n : Nat) t.lab t.base, ?_, .same ?_ ?_, c + 8, upd m 2 (setW (m 2) c), ?_⟩
      · omega
      · refine ⟨.inl rfl, .inl rfl, .inl rfl, .inl rfl, .inl rfl, .inl rfl, .inl rfl, .inl ?_, ?_⟩
        · exact congrArg (V.int .i64) (wrsT c 8 (by omega))
        · repeat (first | exact trivial | refine ⟨.inl rfl, ?_⟩ | refine ⟨.inr rfl, ?_⟩)
      · exact congrArg (fun x => [some (Blk.cells 88 (_ :: _ :: V.int .u64 x :: _)), _]) (set_eq (m 2) c).symm
      · rw [show upd m 2 (setW (m 2) c) = sett m c by unfold sett; rw [hi]]
        exact ⟨rfl, by omega, hm', rfl, rfl⟩
    · rw [hi] at e1
      refine DrawP.intro tysOk mixed false ?_
      refine gdP (by rw [e1]; rfl) ?_
      rw [e1]
      refine ⟨by kernel_rfl, ?_⟩
      refine ⟨clampN n - (c + 8), envR2 t (clampN n : Nat) (c + 8 : Nat), hpR (upd m 3 (setW (m 3) c)) (clampN n : Nat) t.lab t.base, ?_, .same ?_ ?_, c + 8, upd m 3 (setW (m 3) c), ?_⟩
      · omega
      · refine ⟨.inl rfl, .inl rfl, .inl rfl, .inl rfl, .inl rfl, .inl rfl, .inl rfl, .inl ?_, ?_⟩
        · exact congrArg (V.int .i64) (wrsT c 8 (by omega))
        · repeat (first | exact trivial | refine ⟨.inl rfl, ?_⟩ | refine ⟨.inr rfl, ?_⟩)
      · exact congrArg (fun x => [some (Blk.cells 88 (_ :: _ :: _ :: V.int .u64 x :: _)), _]) (set_eq (m 3) c).symm
      · rw [show upd m 3 (setW (m 3) c) = sett m c by unfold sett; rw [hi]]
        exact ⟨rfl, by omega, hm', rfl, rfl⟩
    · rw [hi] at e1
      refine DrawP.intro tysOk mixed false ?_
      refine gdP (by rw [e1]; rfl) ?_
      rw [e1]
      refine ⟨by kernel_rfl, ?_⟩
      refine ⟨clampN n - (c + 8), envR2 t (clampN n : Nat) (c + 8 : Nat), hpR (upd m 4 (setW (m 4) c)) (clampN n : Nat) t.lab t.base, ?_, .same ?_ ?_, c + 8, upd m 4 (setW (m 4) c), ?_⟩
      · omega
      · refine ⟨.inl rfl, .inl rfl, .inl rfl, .inl rfl, .inl rfl, .inl rfl, .inl rfl, .inl ?_, ?_⟩
        · exact congrArg (V.int .i64) (wrsT c 8 (by omega))
        · repeat (first | exact trivial | refine ⟨.inl rfl, ?_⟩ | refine ⟨.inr rfl, ?_⟩)
      · exact congrArg (fun x => [some (Blk.cells 88 (_ :: _ :: _ :: _ :: V.int .u64 x :: _)), _]) (set_eq (m 4) c).symm
      · rw [show upd m 4 (setW (m 4) c) = sett m c by unfold sett; rw [hi]]
        exact ⟨rfl, by omega, hm', rfl, rfl⟩
    · rw [hi] at e1
      refine DrawP.intro tysOk mixed false ?_
      refine gdP (by rw [e1]; rfl) ?_
      rw [e1]
      refine ⟨by kernel_rfl, ?_⟩
      refine ⟨clampN n - (c + 8), envR2 t (clampN n : Nat) (c + 8 : Nat), hpR (upd m 5 (setW (m 5) c)) (clampN n : Nat) t.lab t.base, ?_, .same ?_ ?_, c + 8, upd m 5 (setW (m 5) c), ?_⟩
      · omega
      · refine ⟨.inl rfl, .inl rfl, .inl rfl, .inl rfl, .inl rfl, .inl rfl, .inl rfl, .inl ?_, ?_⟩
        · exact congrArg (V.int .i64) (wrsT c 8 (by omega))
        · repeat (first | exact trivial | refine ⟨.inl rfl, ?_⟩ | refine ⟨.inr rfl, ?_⟩)
      · exact congrArg (fun x => [some (Blk.cells 88 (_ :: _ :: _ :: _ :: _ :: V.int .u64 x :: _)), _]) (set_eq (m 5) c).symm
      · rw [show upd m 5 (setW (m 5) c) = sett m c by unfold sett; rw [hi]]
        exact ⟨rfl, by omega, hm', rfl, rfl⟩
    · rw [hi] at e1
      refine DrawP.intro tysOk mixed false ?_
      refine gdP (by rw [e1]; rfl) ?_
      rw [e1]
      refine ⟨by kernel_rfl, ?_⟩
      refine ⟨clampN n - (c + 8), envR2 t (clampN n : Nat) (c + 8 : Nat), hpR (upd m 6 (setW (m 6) c)) (clampN n : Nat) t.lab t.base, ?_, .same ?_ ?_, c + 8, upd m 6 (setW (m 6) c), ?_⟩
      · omega
      · refine ⟨.inl rfl, .inl rfl, .inl rfl, .inl rfl, .inl rfl, .inl rfl, .inl rfl, .inl ?_, ?_⟩
        · exact congrArg (V.int .i64) (wrsT c 8 (by omega))
        · repeat (first | exact trivial | refine ⟨.inl rfl, ?_⟩ | refine ⟨.inr rfl, ?_⟩)
      · exact congrArg (fun x => [some (Blk.cells 88 (_ :: _ :: _ :: _ :: _ :: _ :: V.int .u64 x :: _)), _]) (set_eq (m 6) c).symm
      · rw [show upd m 6 (setW (m 6) c) = sett m c by unfold sett; rw [hi]]
        exact ⟨rfl, by omega, hm', rfl, rfl⟩
    · rw [hi] at e1
      refine DrawP.intro tysOk mixed false ?_
      refine gdP (by rw [e1]; rfl) ?_
      rw [e1]
      refine ⟨by kernel_rfl, ?_⟩
      refine ⟨clampN n - (c + 8), envR2 t (clampN n : Nat) (c + 8 : Nat), hpR (upd m 7 (setW (m 7) c)) (clampN n : Nat) t.lab t.base, ?_, .same ?_ ?_, c + 8, upd m 7 (setW (m 7) c), ?_⟩
      · omega
      · refine ⟨.inl rfl, .inl rfl, .inl rfl, .inl rfl, .inl rfl, .inl rfl, .inl rfl, .inl ?_, ?_⟩
        · exact congrArg (V.int .i64) (wrsT c 8 (by omega))
        · repeat (first | exact trivial | refine ⟨.inl rfl, ?_⟩ | refine ⟨.inr rfl, ?_⟩)
      · exact congrArg (fun x => [some (Blk.cells 88 (_ :: _ :: _ :: _ :: _ :: _ :: _ :: V.int .u64 x :: _)), _]) (set_eq (m 7) c).symm
      · rw [show upd m 7 (setW (m 7) c) = sett m c by unfold sett; rw [hi]]
        exact ⟨rfl, by omega, hm', rfl, rfl⟩
  have hge2 : clampN n ≤ c := by have := of_decide_eq_false h; omega
  have hfin : m = resizeW t (clampN n) := by rw [← hm2, show (clampN n - c + 7) / 8 = 0 by omega]; rfl
  show Tb.v ⟨m, (clampN n : Nat), t.lab, t.base⟩ = (t.resize n).v
  rw [hfin]; rfl
theorem tNew (n base : Int) : Fn Tryz.prog 37 [.int .i64 n, .int .u8 base] (Tb.resize ⟨fun _ => 0, 0, base, base⟩ n).v := by
  refine Fn.of_body tysOk md0 Tryz.func37 rfl rfl rfl rfl ?_
  refine (tResize ⟨fun _ => 0, 0, base, base⟩ ⟨Int.le_refl _, by show (0 : Int) ≤ 512; omega, fun _ => by simp⟩ n).sem _ ?_
  rfl
end Go.Cx
