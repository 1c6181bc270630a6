/- What functions of this seat compute, each for every argument of the shapes that are named; no condition beside the stated ones. -/
import Derived.Test.YtanhfplbimefmaaL5
namespace Go.Cv
open Go.Proofs
set_option maxRecDepth 100000

theorem rjoin_fn (xs : List Int) (ys : List (List V)) (tok : Tok) (hy : ys = xs.map lv) (ht : (V.psl 1 ys tok).free = true) (hn : xs.length < 9223372036854775807) :
    Fn Try.prog 11 [.psl 1 ys tok] (.int .u8 (bif xs.any (fun x => !(x == 0)) then 1 else 0)) := by
  refine Fn.of_body tysOk Try.func11 rfl rfl ?_ rfl ?_
  · simp only [allFree, List.all_cons, ht]; rfl
  · conv => whnf
    subst hy
    refine LoopP.inv (fun k env h => ∃ i : Nat, i + k = xs.length ∧ (xs.take i).any (fun x => !(x == 0)) = false ∧ h = [] ∧ env = [.psl 1 (xs.map lv) tok, .undef, .undef, .int .i64 i, .undef, .undef, .undef, .undef, .undef, .undef, .undef, .undef, .undef, .undef, .undef]) xs.length ?_ ?_
    · refine ⟨_, _, .same ?_ rfl, 0, by omega, by simp, rfl, rfl⟩
      repeat (first | exact trivial | refine ⟨.inl rfl, ?_⟩ | refine ⟨.inr rfl, ?_⟩)
    · rintro k env h ⟨i, hik, hany, rfl, rfl⟩
      refine ⟨fun hlt => ?_, fun hge => ?_⟩
      · have hlt' : i < xs.length := by simpa using hlt
        refine ⟨lv xs[i], ⟨by omega, by simp [hlt']⟩, ?_⟩
        refine ⟨fun hp => ?_, fun hp => ?_⟩
        · show V.int .u8 1 = _
          have : xs.any (fun x => !(x == 0)) = true := List.any_eq_true.2 ⟨xs[i], List.getElem_mem hlt', hp⟩
          rw [this]; rfl
        · refine ⟨k - 1, _, _, by omega, .same ?_ rfl, i + 1, by omega, ?_, rfl, rfl⟩
          · rw [show ((i + 1 : Nat) : Int) = IntKind.i64.wrap ((i : Int) + 1) from (wrap_i64 (by omega) (by omega)).symm]
            repeat (first | exact trivial | refine ⟨.inl rfl, ?_⟩ | refine ⟨.inr rfl, ?_⟩)
          · have hp' : (!(xs[i] == 0)) = false := hp
            rw [List.take_succ_eq_append_getElem hlt', List.any_append, hany]; simp only [List.any_cons, List.any_nil, hp']; rfl
      · have hge' : ¬ i < xs.length := by simpa using hge
        show V.int .u8 0 = _
        have : xs.any (fun x => !(x == 0)) = false := by rw [← hany, List.take_of_length_le (by omega)]
        rw [this]; rfl

theorem rmeet_fn (xs : List Int) (ys : List (List V)) (tok : Tok) (hy : ys = xs.map lv) (ht : (V.psl 1 ys tok).free = true) (hn : xs.length < 9223372036854775807) :
    Fn Try.prog 13 [.psl 1 ys tok] (.int .u8 (mt xs)) := by
  refine Fn.of_body tysOk Try.func13 rfl rfl ?_ rfl ?_
  · simp only [allFree, List.all_cons, ht]; rfl
  · conv => whnf
    subst hy
    refine LoopP.inv (fun k env h => ∃ i : Nat, i + k = xs.length ∧ (xs.take i).any (fun x => x == 0) = false ∧ h = [] ∧ env = [.psl 1 (xs.map lv) tok, .undef, .undef, .int .i64 i, .undef, .undef, .undef, .undef, .undef, .undef, .undef, .undef, .undef, .undef, .undef]) xs.length ?_ ?_
    · refine ⟨_, _, .same ?_ rfl, 0, by omega, by simp, rfl, rfl⟩
      repeat (first | exact trivial | refine ⟨.inl rfl, ?_⟩ | refine ⟨.inr rfl, ?_⟩)
    · rintro k env h ⟨i, hik, hany, rfl, rfl⟩
      refine ⟨fun hlt => ?_, fun hge => ?_⟩
      · have hlt' : i < xs.length := by simpa using hlt
        refine ⟨lv xs[i], ⟨by omega, by simp [hlt']⟩, ?_⟩
        refine ⟨fun hp => ?_, fun hp => ?_⟩
        · show V.int .u8 0 = _
          have : xs.any (fun x => x == 0) = true := List.any_eq_true.2 ⟨xs[i], List.getElem_mem hlt', hp⟩
          rw [mt, this]; rfl
        · refine ⟨k - 1, _, _, by omega, .same ?_ rfl, i + 1, by omega, ?_, rfl, rfl⟩
          · rw [show ((i + 1 : Nat) : Int) = IntKind.i64.wrap ((i : Int) + 1) from (wrap_i64 (by omega) (by omega)).symm]
            repeat (first | exact trivial | refine ⟨.inl rfl, ?_⟩ | refine ⟨.inr rfl, ?_⟩)
          · have hp' : (xs[i] == 0) = false := hp
            rw [List.take_succ_eq_append_getElem hlt', List.any_append, hany]; simp only [List.any_cons, List.any_nil, hp']; rfl
      · have hge' : ¬ i < xs.length := by simpa using hge
        show V.int .u8 1 = _
        have : xs.any (fun x => x == 0) = false := by rw [← hany, List.take_of_length_le (by omega)]
        rw [mt, this]; rfl

def bad2 (x : Int) : Bool := bif x != 0 then x != 1 else false
theorem rright_fn (xs : List Int) (ys : List (List V)) (tok : Tok) (hy : ys = xs.map lv) (ht : (V.psl 1 ys tok).free = true) (hn : xs.length < 9223372036854775807) :
    Fn Try.prog 9 [.psl 1 ys tok] (.bool (!xs.any bad2)) := by
  refine Fn.of_body tysOk Try.func9 rfl rfl ?_ rfl ?_
  · simp only [allFree, List.all_cons, ht]; rfl
  · conv => whnf
    subst hy
    refine LoopP.inv (fun k env h => ∃ i : Nat, i + k = xs.length ∧ (xs.take i).any bad2 = false ∧ h = [] ∧ env = [.psl 1 (xs.map lv) tok, .undef, .undef, .int .i64 i, .undef, .undef, .undef, .undef, .undef, .undef, .undef, .undef, .undef, .undef, .undef, .undef, .undef, .undef, .undef, .undef, .undef, .undef]) xs.length ?_ ?_
    · refine ⟨_, _, .same ?_ rfl, 0, by omega, by simp, rfl, rfl⟩
      repeat (first | exact trivial | refine ⟨.inl rfl, ?_⟩ | refine ⟨.inr rfl, ?_⟩)
    · rintro k env h ⟨i, hik, hany, rfl, rfl⟩
      refine ⟨fun hlt => ?_, fun hge => ?_⟩
      · have hlt' : i < xs.length := by simpa using hlt
        refine ⟨lv xs[i], ⟨by omega, by simp [hlt']⟩, ?_⟩
        refine ⟨fun hq => ?_, fun hq => ?_⟩
        · refine BCase.yes rfl ?_
          refine BCase.yes rfl ?_
          refine ⟨lv xs[i], ⟨by omega, by simp [hlt']⟩, ?_⟩
          refine BCase.yes rfl ?_
          refine BCase.yes rfl ?_
          refine ⟨fun hp => ?_, fun hp => ?_⟩
          · show V.bool false = _
            have : xs.any bad2 = true := List.any_eq_true.2 ⟨xs[i], List.getElem_mem hlt', by unfold bad2; rw [hq]; exact hp⟩
            rw [this]; rfl
          · refine ⟨k - 1, _, _, by omega, .same ?_ rfl, i + 1, by omega, ?_, rfl, rfl⟩
            · rw [show ((i + 1 : Nat) : Int) = IntKind.i64.wrap ((i : Int) + 1) from (wrap_i64 (by omega) (by omega)).symm]
              repeat (first | exact trivial | refine ⟨.inl rfl, ?_⟩ | refine ⟨.inr rfl, ?_⟩)
            · have hb : bad2 xs[i] = false := by unfold bad2; rw [hq]; exact hp
              rw [List.take_succ_eq_append_getElem hlt', List.any_append, hany]; simp only [List.any_cons, List.any_nil, hb]; rfl
        · repeat refine BCase.no rfl ?_
          refine ⟨k - 1, _, _, by omega, .same ?_ rfl, i + 1, by omega, ?_, rfl, rfl⟩
          · rw [show ((i + 1 : Nat) : Int) = IntKind.i64.wrap ((i : Int) + 1) from (wrap_i64 (by omega) (by omega)).symm]
            repeat (first | exact trivial | refine ⟨.inl rfl, ?_⟩ | refine ⟨.inr rfl, ?_⟩)
          · have hb : bad2 xs[i] = false := by unfold bad2; rw [hq]; rfl
            rw [List.take_succ_eq_append_getElem hlt', List.any_append, hany]; simp only [List.any_cons, List.any_nil, hb]; rfl
      · have hge' : ¬ i < xs.length := by simpa using hge
        show V.bool true = _
        have : xs.any bad2 = false := by rw [← hany, List.take_of_length_le (by omega)]
        rw [this]; rfl
theorem rflows_fn (a b : Int) : Fn Try.prog 15 [.int .u8 a, .int .u8 b] (.bool (bif a == 0 then true else !(b == 0))) := by
  refine Fn.of_body tysOk Try.func15 rfl rfl rfl rfl ?_
  refine ⟨fun hq => ?_, fun hq => ?_⟩
  · refine BCase.yes rfl ?_
    rw [hq]; rfl
  · refine BCase.no rfl ?_
    rw [hq]; rfl
end Go.Cv
