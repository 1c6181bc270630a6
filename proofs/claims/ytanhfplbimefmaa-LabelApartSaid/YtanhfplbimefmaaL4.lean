/- What functions of this seat compute, each for every argument of the shapes that are named; no condition beside the stated ones. -/
import Derived.Test.YtanhfplbimefmaaL3
namespace Go.Cv
open Go.Proofs
set_option maxRecDepth 100000

/-! ### The levels -/
def jn (xs : List Int) : Int := if xs.any fun x => decide (x > 0) then 1 else 0
def mt (xs : List Int) : Int := if xs.any fun x => x == 0 then 0 else 1
def rt (xs : List Int) : Bool := !(xs.any fun x => decide (x > 1))
def fl (a b : Int) : Bool := !decide (a > 0) || decide (b > 0)

theorem meet1_fn (x : Int) : Fn Try.prog 29 [.int .u8 x] (.bool (x == 0)) := by
  refine Fn.of_body tysOk Try.func29 rfl rfl rfl rfl ?_
  rfl
theorem right1_fn (x : Int) : Fn Try.prog 26 [.int .u8 x] (.bool (decide (x > 1))) := by
  refine Fn.of_body tysOk Try.func26 rfl rfl rfl rfl ?_
  rfl
theorem meet_fn (xs : List Int) (ys : List (List V)) (tok : Tok) (hy : ys = xs.map lv) (ht : (V.psl 1 ys tok).free = true) (hn : xs.length < 9223372036854775807) :
    Fn Try.prog 12 [.psl 1 ys tok] (.int .u8 (mt xs)) := by
  refine Fn.of_body tysOk Try.func12 rfl rfl ?_ rfl ?_
  · simp only [allFree, List.all_cons, ht]; rfl
  · refine (some_fn 29 _ meet1_fn xs ys tok hy ht hn).sem _ ?_
    refine (which_fn _ _ _).sem _ ?_
    rfl
theorem right_fn (xs : List Int) (ys : List (List V)) (tok : Tok) (hy : ys = xs.map lv) (ht : (V.psl 1 ys tok).free = true) (hn : xs.length < 9223372036854775807) :
    Fn Try.prog 8 [.psl 1 ys tok] (.bool (rt xs)) := by
  refine Fn.of_body tysOk Try.func8 rfl rfl ?_ rfl ?_
  · simp only [allFree, List.all_cons, ht]; rfl
  · refine (some_fn 26 _ right1_fn xs ys tok hy ht hn).sem _ ?_
    rfl
theorem flows (a b : Int) : Fn Try.prog 14 [.int .u8 a, .int .u8 b] (.bool (fl a b)) := by
  have := flows_fn a b
  have e : (((if decide (a > 0) || decide (b > 0) then 1 else 0) : Int) == (if decide (b > 0) then 1 else 0)) = fl a b := by
    unfold fl
    cases decide (a > 0) <;> cases decide (b > 0) <;> rfl
  rwa [e] at this

/-! ### Texts -/
def tx (s : ByteArray) (l m : Int) : V := .agg [.str s, .int .u8 l, .int .i64 m]
def nob : ByteArray := ⟨#[]⟩
def rdS (s : ByteArray) (l by' : Int) : ByteArray := bif fl l by' then s else nob
def rdE (l by' : Int) : Int := bif fl l by' then 0 else 6
def wrOk (l m : Int) (x : ByteArray) (by' : Int) : Bool := fl by' l && !decide ((x.size : Int) > m)
def wrS (s : ByteArray) (l m : Int) (x : ByteArray) (by' : Int) : ByteArray := bif wrOk l m x by' then x else s
def wrE (l m : Int) (x : ByteArray) (by' : Int) : Int := bif fl by' l then (bif decide ((x.size : Int) > m) then 4 else 0) else 6

theorem read_fn (s : ByteArray) (l m b : Int) : Fn Try.prog 19 [tx s l m, .int .u8 b] (.tup [.str (rdS s l b), .int .i64 (rdE l b)]) := by
  refine Fn.of_body tysOk Try.func19 rfl rfl rfl rfl ?_
  refine (flows _ _).sem _ ?_
  unfold rdS rdE
  cases fl l b
  · refine BCase.yes rfl ?_
    rfl
  · refine BCase.no rfl ?_
    rfl
theorem declassify_fn (s : ByteArray) (l m : Int) : Fn Try.prog 18 [tx s l m] (tx s 0 m) := by
  refine Fn.of_body tysOk Try.func18 rfl rfl rfl rfl ?_
  rfl
theorem seen_fn (s : ByteArray) (l m b : Int) : Fn Try.prog 23 [tx s l m, .int .u8 b] (tx (rdS s l b) l m) := by
  refine Fn.of_body tysOk Try.func23 rfl rfl rfl rfl ?_
  refine (read_fn _ _ _ _).sem _ ?_
  rfl
theorem write_fn (s : ByteArray) (l m : Int) (x : ByteArray) (b : Int) : Fn Try.prog 21 [tx s l m, .str x, .int .u8 b] (.tup [tx (wrS s l m x b) l m, .int .i64 (wrE l m x b)]) := by
  refine Fn.of_body tysOk Try.func21 rfl rfl rfl rfl ?_
  refine (flows _ _).sem _ ?_
  unfold wrS wrE wrOk
  cases fl b l
  · refine BCase.yes rfl ?_
    rfl
  · refine BCase.no rfl ?_
    show BCase (decide ((x.size : Int) > m)) _ _
    cases decide ((x.size : Int) > m)
    · refine BCase.no rfl ?_
      rfl
    · refine BCase.yes rfl ?_
      rfl
end Go.Cv
