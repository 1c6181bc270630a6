/- What functions of this seat compute, each for every argument of the shapes that are named; no condition beside the stated ones. -/
import Derived.Test.YtanhfplbimefmaaL7
namespace Go.Cv
open Go.Proofs
set_option maxRecDepth 100000
set_option maxHeartbeats 4000000

theorem rread_fn (s : ByteArray) (l m b : Int) (hl : 0 ≤ l) (hb : 0 ≤ b) : Fn Try.prog 20 [tx s l m, .int .u8 b] (.tup [.str (rdS s l b), .int .i64 (rdE l b)]) := by
  refine Fn.of_body tysOk Try.func20 rfl rfl rfl rfl ?_
  refine (rflows' _ _ hl hb).sem _ ?_
  unfold rdS rdE
  cases fl l b
  · refine BCase.yes rfl ?_
    rfl
  · refine BCase.no rfl ?_
    rfl
theorem rwrite_fn (s : ByteArray) (l m : Int) (x : ByteArray) (b : Int) (hl : 0 ≤ l) (hb : 0 ≤ b) : Fn Try.prog 22 [tx s l m, .str x, .int .u8 b] (.tup [tx (wrS s l m x b) l m, .int .i64 (wrE l m x b)]) := by
  refine Fn.of_body tysOk Try.func22 rfl rfl rfl rfl ?_
  refine (rflows' _ _ hb hl).sem _ ?_
  unfold wrS wrE wrOk
  cases fl b l
  · refine BCase.yes rfl ?_
    rfl
  · refine BCase.no rfl ?_
    show BCase (decide ((x.size : Int) > m)) _ _
    cases decide ((x.size : Int) > m)
    · refine BCase.no rfl ?_
      rfl
    · refine BCase.yes rfl ?_
      rfl
theorem rseen_fn (s : ByteArray) (l m b : Int) (hl : 0 ≤ l) (hb : 0 ≤ b) : Fn Try.prog 24 [tx s l m, .int .u8 b] (tx (rdS s l b) l m) := by
  refine Fn.of_body tysOk Try.func24 rfl rfl rfl rfl ?_
  refine (rflows' _ _ hl hb).sem _ ?_
  unfold rdS
  cases fl l b
  · refine BCase.yes rfl ?_
    rfl
  · refine BCase.no rfl ?_
    rfl
theorem two_fn (n : Int) : Fn Try.prog 17 [.int .u8 n] (.int .u8 (bif n.tmod 2 == 0 then 0 else 1)) := by
  refine Fn.of_body tysOk Try.func17 rfl rfl rfl rfl ?_
  refine ⟨by decide, ?_⟩
  show BCase (n.tmod 2 == 0) _ _
  cases n.tmod 2 == 0
  · refine BCase.no rfl ?_
    rfl
  · refine BCase.yes rfl ?_
    rfl
end Go.Cv
