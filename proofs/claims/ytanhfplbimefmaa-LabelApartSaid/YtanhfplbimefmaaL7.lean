/- What functions of this seat compute, each for every argument of the shapes that are named; no condition beside the stated ones. -/
import Derived.Test.YtanhfplbimefmaaL6
import Derived.Test.YtanhfplbimefmaaCv14
namespace Go.Cv
open Go.Proofs
set_option maxRecDepth 100000
set_option maxHeartbeats 4000000

theorem any_eq {xs : List Int} {p q : Int → Bool} (h : ∀ x ∈ xs, p x = q x) : xs.any p = xs.any q := by
  induction xs with
  | nil => rfl
  | cons x xs ih =>
    rw [List.any_cons, List.any_cons, h x (by simp), ih fun y hy => h y (by simp [hy])]

theorem bad2_eq {x : Int} (h : 0 ≤ x) : bad2 x = decide (x > 1) := by
  unfold bad2
  by_cases h0 : x = 0
  · subst h0; rfl
  · by_cases h1 : x = 1
    · subst h1; rfl
    · have : x > 1 := by omega
      simp [h0, h1, this]
theorem ne_eq {x : Int} (h : 0 ≤ x) : (!(x == 0)) = decide (x > 0) := by
  by_cases h0 : x = 0
  · subst h0; rfl
  · have : x > 0 := by omega
    simp [h0, this]

theorem rjoin' (xs : List Int) (tok : Tok) (ht : (V.psl 1 (xs.map lv) tok).free = true) (hn : xs.length < 9223372036854775807) (hz : ∀ x ∈ xs, 0 ≤ x) : Fn Try.prog 11 [.psl 1 (xs.map lv) tok] (.int .u8 (jn xs)) := by
  have := rjoin_fn xs _ tok rfl ht hn
  rw [any_eq fun x hx => ne_eq (hz x hx)] at this
  have e : (bif xs.any (fun x => decide (x > 0)) then (1 : Int) else 0) = jn xs := by unfold jn; cases xs.any _ <;> rfl
  rwa [e] at this
theorem join' (xs : List Int) (tok : Tok) (ht : (V.psl 1 (xs.map lv) tok).free = true) (hn : xs.length < 9223372036854775807) : Fn Try.prog 10 [.psl 1 (xs.map lv) tok] (.int .u8 (jn xs)) := join_fn xs _ tok rfl ht hn
theorem rright' (xs : List Int) (tok : Tok) (ht : (V.psl 1 (xs.map lv) tok).free = true) (hn : xs.length < 9223372036854775807) (hz : ∀ x ∈ xs, 0 ≤ x) : Fn Try.prog 9 [.psl 1 (xs.map lv) tok] (.bool (rt xs)) := by
  have := rright_fn xs _ tok rfl ht hn
  rwa [any_eq fun x hx => bad2_eq (hz x hx)] at this
theorem rflows' (a b : Int) (ha : 0 ≤ a) (hb : 0 ≤ b) : Fn Try.prog 15 [.int .u8 a, .int .u8 b] (.bool (fl a b)) := by
  have := rflows_fn a b
  rw [ne_eq hb] at this
  have e : (bif a == 0 then true else decide (b > 0)) = fl a b := by
    unfold fl
    rw [← ne_eq ha]
    cases (a == 0) <;> rfl
  rwa [e] at this

theorem tells_sem (xs : List Int) (hw : ∀ x ∈ xs, 0 ≤ x) (hl : xs.length ≤ 9223372036854775807) : Sem Try.prog 3 [.psl 1 (xs.map lv) .any] [] fun v _ => v = .bool true := by
  refine Sem.of_body tysOk Try.func3 rfl rfl ?_
  refine ⟨⟨by omega, by split <;> omega, by split <;> omega⟩, ?_⟩
  generalize hZ : List.take _ (List.drop _ (List.map lv xs)) = Z
  have hz : ∃ zs : List Int, Z = zs.map lv ∧ zs.length ≤ 40 ∧ ∀ x ∈ zs, 0 ≤ x := by
    refine ⟨xs.take ((if 40 < ((List.map lv xs).length : Int) then 40 else ((List.map lv xs).length : Int)).toNat - 0), ?_, ?_, fun x hx => hw x (List.mem_of_mem_take hx)⟩
    · rw [← hZ]; simp
    · simp only [List.length_take]; split <;> omega
  obtain ⟨zs, rfl, hn, hz⟩ := hz
  clear hZ
  refine (right_fn zs _ .any rfl rfl (by omega)).sem _ ?_
  refine (rright' zs .any rfl (by omega) hz).sem _ ?_
  refine BCase.no (bne_self_eq_false _) ?_
  refine BCase.no rfl ?_
  refine (join' zs .any rfl (by omega)).sem _ ?_
  refine BCase.no rfl ?_
  refine BCase.no rfl ?_
  refine (rjoin' zs .any rfl (by omega) hz).sem _ ?_
  refine BCase.no rfl ?_
  refine BCase.no (bne_self_eq_false _) ?_
  refine BCase.no rfl ?_
  refine (meet_fn zs _ .any rfl rfl (by omega)).sem _ ?_
  refine BCase.no rfl ?_
  refine BCase.no rfl ?_
  refine (rmeet_fn zs _ .any rfl rfl (by omega)).sem _ ?_
  refine BCase.no rfl ?_
  refine BCase.no (bne_self_eq_false _) ?_
  refine LoopP.inv (fun k env h => ∃ i : Nat, i + k = zs.length ∧ h = [] ∧ env = .psl 1 (zs.map lv) .any :: .undef :: .undef :: .int .i64 i :: List.replicate 57 .undef) zs.length ?_ ?_
  · refine ⟨_, _, .same ?_ rfl, 0, by omega, rfl, rfl⟩
    repeat (first | exact trivial | refine ⟨.inl rfl, ?_⟩ | refine ⟨.inr rfl, ?_⟩)
  · rintro k env h ⟨i, hik, rfl, rfl⟩
    refine ⟨fun hlt => ?_, fun hge => ?_⟩
    · have hi : i < zs.length := by simpa using hlt
      refine LoopP.inv (fun m env h => ∃ j : Nat, j + m = zs.length ∧ h = [] ∧ env = .psl 1 (zs.map lv) .any :: .undef :: .undef :: .int .i64 i :: .int .i64 j :: List.replicate 56 .undef) zs.length ?_ ?_
      · refine ⟨_, _, .same ?_ rfl, 0, by omega, rfl, rfl⟩
        repeat (first | exact trivial | refine ⟨.inl rfl, ?_⟩ | refine ⟨.inr rfl, ?_⟩)
      · rintro m env h ⟨j, hjm, rfl, rfl⟩
        refine ⟨fun hlt => ?_, fun hge => ?_⟩
        · have hj : j < zs.length := by simpa using hlt
          refine DrawP.intro tysOk mixed ?_
          refine ⟨lv zs[i], ⟨by omega, by simp [hi]⟩, ?_⟩
          refine ⟨lv zs[j], ⟨by omega, by simp [hj]⟩, ?_⟩
          refine ⟨_, flows _ _, ?_⟩
          refine ⟨lv zs[i], ⟨by omega, by simp [hi]⟩, ?_⟩
          refine ⟨lv zs[j], ⟨by omega, by simp [hj]⟩, ?_⟩
          refine ⟨_, rflows' _ _ (hz _ (List.getElem_mem hi)) (hz _ (List.getElem_mem hj)), ?_⟩
          refine ⟨by kernel_rfl, ?_⟩
          refine BCase.no (bne_self_eq_false _) ?_
          refine ⟨m - 1, _, _, by omega, .same ?_ rfl, j + 1, by omega, rfl, rfl⟩
          rw [show ((j + 1 : Nat) : Int) = IntKind.i64.wrap ((j : Int) + 1) from (wrap_i64 (by omega) (by omega)).symm]
          repeat (first | exact trivial | refine ⟨.inl rfl, ?_⟩ | refine ⟨.inr rfl, ?_⟩)
        · refine ⟨k - 1, _, _, by omega, .same ?_ rfl, i + 1, by omega, rfl, rfl⟩
          rw [show ((i + 1 : Nat) : Int) = IntKind.i64.wrap ((i : Int) + 1) from (wrap_i64 (by omega) (by omega)).symm]
          repeat (first | exact trivial | refine ⟨.inl rfl, ?_⟩ | refine ⟨.inr rfl, ?_⟩)
    · refine works_fn.sem _ ?_
      rfl
end Go.Cv
