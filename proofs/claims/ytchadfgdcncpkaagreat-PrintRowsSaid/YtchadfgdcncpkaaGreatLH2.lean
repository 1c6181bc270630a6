/- What functions of this seat compute, each for every argument of the shapes that are named; no condition beside the stated ones. -/
import Derived.Test.YtchadfgdcncpkaaGreatLG6g
import Derived.Test.YtchadfgdcncpkaaGreatLR2g
import Derived.Test.YtchadfgdcncpkaaGreatCx24
namespace Go.Cx
open Go.Proofs Go.Row
set_option maxRecDepth 100000
set_option maxHeartbeats 8000000
/-! ### Rings: new ones, their labels -/
theorem cNewG (r k b : Int) : Eff Tryz.prog 34 [.int .i64 r, .int .i64 k, .int .u8 b] [] [.grow 0 55 1 []] (newS r k b).v := by
  refine Eff.of rfl rfl rfl rfl (Nat.zero_le _) (Sem.ghost (Sem.of_body tysOk md0 Tryz.func34 rfl rfl ?_))
  refine (resize_fn ⟨0, 0, 0, 0, false, b⟩ _ _).sem _ ?_
  refine .inr ⟨0, _, _, rfl, Nat.le_refl _, rfl, fun k b hk hb => ?_, rfl, Nat.le_refl _, .inl rfl, trivial⟩
  match k, hb with
  | 0, _ => exact absurd rfl hk
  | k + 1, hb => simp [hget] at hb
def rNewC (most : Nat) (l : Int) : List V := [.nils, .int .i64 0, .int .i64 most, .int .u8 l]
theorem rgNew (most : Nat) (hm : most ≤ 1000) (l : Int) : Eff Tryz.prog 35 [.int .i64 most, .int .u8 l] [] [.cells 110 (rNewC most l)] (.ptr 0 0) := by
  refine Eff.of rfl rfl rfl rfl (Nat.zero_le _) (Sem.of_body tysOk md0 Tryz.func35 rfl rfl ?_)
  repeat (first | refine BCase.yes rfl ?_ | refine BCase.no rfl ?_)
  refine BCase.no (decide_eq_false (by omega)) ?_
  exact ⟨rfl, Nat.le_refl _, .inl rfl, trivial⟩
/-- The label is raised. -/
def rgRaised (r : Rg) (l : Int) : Rg := { r with lab := max r.lab l }
theorem rgRaise (r : Rg) (h : r.ok) (l : Int) : Eff Tryz.prog 99 [.ptr 0 0, .int .u8 l] (rgB r) (rgB (rgRaised r l)) (.tup []) := by
  refine Eff.of rfl rfl (rgB_ok r h) (rgB_ok _ ⟨h.gh, h.most, h.len, h.first⟩) (Nat.le_refl _) ?_
  obtain ⟨lines, first, most, lab, ver, ge, gs, gh⟩ := r
  have hmx : max lab l = if l > lab then l else lab := by split <;> omega
  cases lines with
  | nil =>
    refine Sem.of_body tysOk md0 Tryz.func99 rfl rfl ?_
    repeat (first | refine BCase.yes rfl ?_ | refine BCase.no rfl ?_)
    refine ⟨rfl, Nat.le_refl _, .inl ?_, .inl rfl, trivial⟩
    exact congrArg (fun z => some (Blk.cells 110 [.nils, .int .i64 first, .int .i64 most, .int .u8 z])) hmx
  | cons x ls =>
    refine Sem.of_body tysOk md0 Tryz.func99 rfl rfl ?_
    repeat (first | refine BCase.yes rfl ?_ | refine BCase.no rfl ?_)
    refine ⟨rfl, Nat.le_refl _, .inl ?_, .inl rfl, trivial⟩
    exact congrArg (fun z => some (Blk.cells 110 [.gsl 1 1 0 (ls.length + 1) (ls.length + 1) false ver, .int .i64 first, .int .i64 most, .int .u8 z])) hmx
theorem rgLabel (r : Rg) (h : r.ok) : Eff Tryz.prog 28 [.ptr 0 0] (rgB r) (rgB r) (.int .u8 r.lab) := by
  refine Eff.of rfl rfl (rgB_ok r h) (rgB_ok r h) (Nat.le_refl _) ?_
  refine Sem.of_body tysOk md0 Tryz.func28 rfl rfl ?_
  repeat (first | refine BCase.yes rfl ?_ | refine BCase.no rfl ?_)
  exact ⟨rfl, Nat.le_refl _, .inl rfl, .inl rfl, trivial⟩
theorem rgLen (r : Rg) (h : r.ok) : Eff Tryz.prog 20 [.ptr 0 0] (rgB r) (rgB r) (.int .i64 r.lines.length) := by
  refine Eff.of rfl rfl (rgB_ok r h) (rgB_ok r h) (Nat.le_refl _) ?_
  obtain ⟨lines, first, most, lab, ver, ge, gs, gh⟩ := r
  cases lines with
  | nil =>
    refine Sem.of_body tysOk md0 Tryz.func20 rfl rfl ?_
    repeat (first | refine BCase.yes rfl ?_ | refine BCase.no rfl ?_)
    exact ⟨rfl, Nat.le_refl _, .inl rfl, .inl rfl, trivial⟩
  | cons x l =>
    refine Sem.of_body tysOk md0 Tryz.func20 rfl rfl ?_
    repeat (first | refine BCase.yes rfl ?_ | refine BCase.no rfl ?_)
    exact ⟨rfl, Nat.le_refl _, .inl rfl, .inl rfl, trivial⟩
end Go.Cx
