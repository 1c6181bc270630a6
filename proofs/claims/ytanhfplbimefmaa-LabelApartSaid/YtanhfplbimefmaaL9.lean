/- What functions of this seat compute, each for every argument of the shapes that are named; no condition beside the stated ones. -/
import Derived.Test.YtanhfplbimefmaaL8
namespace Go.Cv
open Go.Proofs
set_option maxRecDepth 100000
set_option maxHeartbeats 4000000

abbrev Act1 := Int × ByteArray × Int
def av (a : Act1) : List V := [.int .u8 a.1, .str a.2.1, .int .u8 a.2.2]
def txc (s : ByteArray) (l m : Int) : Option Blk := some (.cells [.str s, .int .u8 l, .int .i64 m])
def envT (xs : List Act1) (i : Nat) : List V := .undef :: .psl 3 (xs.map av) .any :: .ptr 0 0 :: .undef :: .undef :: .ptr 1 0 :: .int .i64 i :: List.replicate 117 .undef

theorem sEq_self (a : ByteArray) : sEq a a = true := by simp [sEq]

theorem texts_sem (s : ByteArray) (l m : Int) (hl : 0 ≤ l) (xs : List Act1) (hw : ∀ x ∈ xs, 0 ≤ x.2.2) (hs : s.size ≤ 9223372036854775807) (hS : ∀ x ∈ xs, x.2.1.size ≤ 9223372036854775807) : Sem Try.prog 5 [tx s l m, .psl 3 (xs.map av) .any] [] fun v _ => v = .bool true := by
  refine Sem.of_body tysOk Try.func5 rfl rfl ?_
  refine ⟨⟨by omega, by split <;> omega, by split <;> omega⟩, ?_⟩
  refine LoopP.inv (fun k env h => ∃ (i : Nat) (S : ByteArray) (L : Int), i + k = 40 ∧ 0 ≤ L ∧ h = [txc S L m, txc S L m] ∧ env = envT xs i) 40 ?_ ?_
  · refine ⟨_, _, .same ?_ rfl, 0, _, _, by omega, hl, rfl, rfl⟩
    repeat (first | exact trivial | refine ⟨.inl rfl, ?_⟩ | refine ⟨.inr rfl, ?_⟩)
  · rintro k env h ⟨i, S, L, hik, hL, rfl, rfl⟩
    have hlen : (xs.map av).length = xs.length := List.length_map _
    refine ⟨fun h1 => ?_, fun h1 => ?_⟩
    · have hi : i < xs.length := by simpa using h1
      refine BCase.yes rfl ?_
      refine ⟨fun h2 => ?_, fun h2 => ?_⟩
      · have h2' : i < 40 := by
          have h3 : (i : Int) < 40 := by simpa using h2
          omega
        have hb := hw _ (List.getElem_mem hi)
        have hsz := hS _ (List.getElem_mem hi)
        refine ⟨av xs[i], ⟨by omega, by simp [hi]⟩, ?_⟩
        refine ⟨⟨by omega, by split <;> omega, by split <;> omega⟩, ?_⟩
        refine ⟨by decide, ?_⟩
        refine ⟨fun h3 => ?_, fun h3 => ?_⟩
        · refine (declassify_fn _ _ _).sem _ ?_
          refine DrawP.intro tysOk mixed ?_
          refine BCase.no (by simp [sEq_self]) ?_
          refine BCase.no rfl ?_
          refine BCase.no rfl ?_
          refine BCase.no rfl ?_
          refine ⟨_, seen_fn _ _ _ _, ?_⟩
          refine BCase.no rfl ?_
          refine BCase.no rfl ?_
          refine BCase.no rfl ?_
          refine BCase.no rfl ?_
          refine ⟨_, rseen_fn _ _ _ _ (Int.le_refl 0) hb, ?_⟩
          refine BCase.no rfl ?_
          refine ⟨by kernel_rfl, ?_⟩
          refine BCase.no (by simp [sEq_self]) ?_
          refine ⟨k - 1, _, [_, _], by omega, .cut ?_ (Nat.le_refl 2) rfl rfl, i + 1, _, _, by omega, Int.le_refl 0, rfl, rfl⟩
          unfold envT
          rw [show ((i + 1 : Nat) : Int) = IntKind.i64.wrap ((i : Int) + 1) from (wrap_i64 (by omega) (by omega)).symm]
          repeat (first | exact trivial | refine ⟨.inl rfl, ?_⟩ | refine ⟨.inr rfl, ?_⟩)
        · refine ⟨by decide, ?_⟩
          refine ⟨fun h4 => ?_, fun h4 => ?_⟩
          · refine (read_fn _ _ _ _).sem _ ?_
            refine (rread_fn _ _ _ _ hL hb).sem _ ?_
            refine BCase.no (by simp [sEq_self]) ?_
            refine BCase.no rfl ?_
            refine BCase.no rfl ?_
            refine BCase.no (by simp) ?_
            refine DrawP.intro tysOk mixed ?_
            refine BCase.no (by simp [sEq_self]) ?_
            refine BCase.no rfl ?_
            refine BCase.no rfl ?_
            refine BCase.no rfl ?_
            refine ⟨_, seen_fn _ _ _ _, ?_⟩
            refine BCase.no rfl ?_
            refine BCase.no rfl ?_
            refine BCase.no rfl ?_
            refine BCase.no rfl ?_
            refine ⟨_, rseen_fn _ _ _ _ hL hb, ?_⟩
            refine BCase.no rfl ?_
            refine ⟨by kernel_rfl, ?_⟩
            refine BCase.no (by simp [sEq_self]) ?_
            refine ⟨k - 1, _, [_, _], by omega, .cut ?_ (Nat.le_refl 2) rfl rfl, i + 1, _, _, by omega, hL, rfl, rfl⟩
            unfold envT
            rw [show ((i + 1 : Nat) : Int) = IntKind.i64.wrap ((i : Int) + 1) from (wrap_i64 (by omega) (by omega)).symm]
            repeat (first | exact trivial | refine ⟨.inl rfl, ?_⟩ | refine ⟨.inr rfl, ?_⟩)
          · refine (write_fn _ _ _ _ _).sem _ ?_
            refine (rwrite_fn _ _ _ _ _ hL hb).sem _ ?_
            refine BCase.no (by simp) ?_
            refine DrawP.intro tysOk mixed ?_
            refine BCase.no (by simp [sEq_self]) ?_
            refine BCase.no rfl ?_
            refine BCase.no rfl ?_
            refine BCase.no rfl ?_
            refine ⟨_, seen_fn _ _ _ _, ?_⟩
            refine BCase.no rfl ?_
            refine BCase.no rfl ?_
            refine BCase.no rfl ?_
            refine BCase.no rfl ?_
            refine ⟨_, rseen_fn _ _ _ _ hL hb, ?_⟩
            refine BCase.no rfl ?_
            refine ⟨by kernel_rfl, ?_⟩
            refine BCase.no (by simp [sEq_self]) ?_
            refine ⟨k - 1, _, [_, _], by omega, .cut ?_ (Nat.le_refl 2) rfl rfl, i + 1, _, _, by omega, hL, rfl, rfl⟩
            unfold envT
            rw [show ((i + 1 : Nat) : Int) = IntKind.i64.wrap ((i : Int) + 1) from (wrap_i64 (by omega) (by omega)).symm]
            repeat (first | exact trivial | refine ⟨.inl rfl, ?_⟩ | refine ⟨.inr rfl, ?_⟩)
      · refine works_fn.sem _ ?_
        rfl
    · refine BCase.no rfl ?_
      refine BCase.no rfl ?_
      refine works_fn.sem _ ?_
      rfl
end Go.Cv
