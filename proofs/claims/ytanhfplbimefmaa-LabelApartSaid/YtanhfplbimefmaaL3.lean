/- What functions of this seat compute, each for every argument of the shapes that are named; no condition beside the stated ones. -/
import Derived.Test.YtanhfplbimefmaaL1
import Derived.Laws.BitsLemmas
namespace Go.Cv
open Go.Proofs
theorem wrap_i64 {n : Int} (h0 : -9223372036854775808 ≤ n) (h1 : n < 9223372036854775808) : IntKind.i64.wrap n = n := by
  rw [IntKind.wrap_i64]; omega
theorem which_fn (b : Bool) (x y : Int) : Fn Try.prog 27 [.bool b, .int .u8 x, .int .u8 y] (.int .u8 (if b then x else y)) := by
  refine Fn.of_body tysOk Try.func27 rfl rfl rfl rfl ?_
  refine ⟨fun h => ?_, fun h => ?_⟩
  · subst h; rfl
  · subst h; rfl
theorem join1_fn (x : Int) : Fn Try.prog 28 [.int .u8 x] (.bool (decide (x > 0))) := by
  refine Fn.of_body tysOk Try.func28 rfl rfl rfl rfl ?_
  rfl
def lv (x : Int) : List V := [.int .u8 x]
def lvs (ys : List (List V)) : List Int := ys.map fun c => match c with | [.int _ n] => n | _ => 0
theorem some_fn (g : FuncId) (p : Int → Bool) (hg : ∀ x, Fn Try.prog g [.int .u8 x] (.bool (p x))) (xs : List Int) (ys : List (List V)) (tok : Tok) (hy : ys = xs.map lv) (ht : (V.psl 1 ys tok).free = true) (hn : xs.length < 9223372036854775807) :
    Fn Try.prog 25 [.psl 1 ys tok, .fn (.func g) [] []] (.bool (xs.any p)) := by
  refine Fn.of_body tysOk Try.func25 rfl rfl ?_ rfl ?_
  · simp only [allFree, List.all_cons, ht]; rfl
  · conv => whnf
    subst hy
    refine LoopP.inv (fun k env h => ∃ i : Nat, i + k = xs.length ∧ (xs.take i).any p = false ∧ h = [] ∧ env = [.psl 1 (xs.map lv) tok, .fn (.func g) [] [], .undef, .undef, .bool false, .undef, .undef, .psl 1 (xs.map lv) tok, .int .i64 (xs.map lv).length, .int .i64 i, .undef, .undef, .undef, .undef, .undef, .undef, .undef]) xs.length ?_ ?_
    · refine ⟨_, _, .same ?_ rfl, 0, by omega, by simp, rfl, rfl⟩
      repeat (first | exact trivial | refine ⟨.inl rfl, ?_⟩ | refine ⟨.inr rfl, ?_⟩)
    · rintro k env h ⟨i, hik, hany, rfl, rfl⟩
      refine ⟨fun hlt => ?_, fun hge => ?_⟩
      · have hlt' : i < xs.length := by simpa using hlt
        refine ⟨lv xs[i], ⟨by omega, by simp [hlt']⟩, ?_⟩
        refine (hg _).sem _ ?_
        refine ⟨fun hp => ?_, fun hp => ?_⟩
        · show V.bool true = _
          have : xs.any p = true := List.any_eq_true.2 ⟨xs[i], List.getElem_mem hlt', hp⟩
          rw [this]
        · refine ⟨k - 1, _, _, by omega, .same ?_ rfl, i + 1, by omega, ?_, rfl, rfl⟩
          · rw [show ((i + 1 : Nat) : Int) = IntKind.i64.wrap ((i : Int) + 1) from (wrap_i64 (by omega) (by omega)).symm]
            repeat (first | exact trivial | refine ⟨.inl rfl, ?_⟩ | refine ⟨.inr rfl, ?_⟩)
          · rw [List.take_succ_eq_append_getElem hlt', List.any_append, hany]; simp [hp]
      · have hge' : ¬ i < xs.length := by simpa using hge
        show V.bool false = _
        have : xs.any p = false := by rw [← hany, List.take_of_length_le (by omega)]
        rw [this]
theorem join_fn (xs : List Int) (ys : List (List V)) (tok : Tok) (hy : ys = xs.map lv) (ht : (V.psl 1 ys tok).free = true) (hn : xs.length < 9223372036854775807) :
    Fn Try.prog 10 [.psl 1 ys tok] (.int .u8 (if xs.any fun x => decide (x > 0) then 1 else 0)) := by
  refine Fn.of_body tysOk Try.func10 rfl rfl ?_ rfl ?_
  · simp only [allFree, List.all_cons, ht]; rfl
  · refine (some_fn 28 _ join1_fn xs ys tok hy ht hn).sem _ ?_
    refine (which_fn _ _ _).sem _ ?_
    rfl
theorem flows_fn (a b : Int) : Fn Try.prog 14 [.int .u8 a, .int .u8 b] (.bool (((if decide (a > 0) || decide (b > 0) then 1 else 0) : Int) == (if decide (b > 0) then 1 else 0))) := by
  refine Fn.of_body tysOk Try.func14 rfl rfl rfl rfl ?_
  refine (join_fn [a, b] _ _ rfl rfl (by simp)).sem _ ?_
  refine (join_fn [b] _ _ rfl rfl (by simp)).sem _ ?_
  simp only [List.any_cons, List.any_nil, Bool.or_false]
  rfl
end Go.Cv
