/- What functions of this seat compute, each for every argument of the shapes that are named; no condition beside the stated ones. -/
import Derived.Test.YtanhfplbimefmaaL4
namespace Go.Cv
open Go.Proofs
set_option maxRecDepth 100000
theorem mixed : Try.prog.follows .mixedOrders = true := by kernel_rfl

theorem some_nil (g : FuncId) : Fn Try.prog 25 [.nils, .fn (.func g) [] []] (.bool false) := by
  refine Fn.of_body tysOk Try.func25 rfl rfl rfl rfl ?_
  refine LoopP.unroll ?_
  refine BCase.no rfl ?_
  rfl
theorem join_nil : Fn Try.prog 10 [.nils] (.int .u8 0) := by
  refine Fn.of_body tysOk Try.func10 rfl rfl rfl rfl ?_
  refine (some_nil _).sem _ ?_
  refine (which_fn _ _ _).sem _ ?_
  rfl
theorem meet_nil : Fn Try.prog 12 [.nils] (.int .u8 1) := by
  refine Fn.of_body tysOk Try.func12 rfl rfl rfl rfl ?_
  refine (some_nil _).sem _ ?_
  refine (which_fn _ _ _).sem _ ?_
  rfl
theorem right_nil : Fn Try.prog 8 [.nils] (.bool true) := by
  refine Fn.of_body tysOk Try.func8 rfl rfl rfl rfl ?_
  refine (some_nil _).sem _ ?_
  rfl

theorem works_fn : Fn Try.prog 16 [] (.bool true) := by
  refine Fn.of_body tysOk Try.func16 rfl rfl rfl rfl ?_
  repeat (first
    | refine BCase.yes rfl ?_
    | refine (write_fn _ _ _ _ _).sem _ ?_
    | refine (read_fn _ _ _ _).sem _ ?_
    | refine (flows _ _).sem _ ?_
    | refine (seen_fn _ _ _ _).sem _ ?_
    | refine (declassify_fn _ _ _).sem _ ?_
    | refine join_nil.sem _ ?_
    | refine meet_nil.sem _ ?_
    | refine right_nil.sem _ ?_
    | refine (join_fn [_] _ .exact rfl rfl (by simp)).sem _ ?_
    | refine (join_fn [_, _] _ .exact rfl rfl (by simp)).sem _ ?_
    | refine (meet_fn [_] _ .exact rfl rfl (by simp)).sem _ ?_
    | refine (meet_fn [_, _] _ .exact rfl rfl (by simp)).sem _ ?_
    | refine (right_fn [_, _] _ .exact rfl rfl (by simp)).sem _ ?_)
  rfl

theorem known_fn : Fn Try.prog 7 [] (.bool true) := by
  refine Fn.of_body tysOk Try.func7 rfl rfl rfl rfl ?_
  repeat (first
    | refine BCase.yes rfl ?_
    | refine (write_fn _ _ _ _ _).sem _ ?_
    | refine (read_fn _ _ _ _).sem _ ?_
    | refine (flows _ _).sem _ ?_
    | refine (seen_fn _ _ _ _).sem _ ?_
    | refine (declassify_fn _ _ _).sem _ ?_
    | refine join_nil.sem _ ?_
    | refine meet_nil.sem _ ?_
    | refine right_nil.sem _ ?_
    | refine (join_fn [_] _ .exact rfl rfl (by simp)).sem _ ?_
    | refine (join_fn [_, _] _ .exact rfl rfl (by simp)).sem _ ?_
    | refine (meet_fn [_] _ .exact rfl rfl (by simp)).sem _ ?_
    | refine (meet_fn [_, _] _ .exact rfl rfl (by simp)).sem _ ?_
    | refine (right_fn [_, _] _ .exact rfl rfl (by simp)).sem _ ?_
    | refine works_fn.sem _ ?_)
  rfl
end Go.Cv
