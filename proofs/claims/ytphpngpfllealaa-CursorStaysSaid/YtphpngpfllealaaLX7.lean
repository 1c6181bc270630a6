/- What functions of this seat compute, each for every argument of the shapes that are named; no condition beside the stated ones. -/
import Derived.Test.YtphpngpfllealaaLX6
namespace Go.Cv
open Go.Proofs
set_option maxRecDepth 100000
set_option maxHeartbeats 4000000

def envS (l : V) (i : Int) : List V := .undef :: .undef :: l :: .undef :: .undef :: .undef :: .undef :: .ptr 1 0 :: .int .i64 i :: List.replicate 107 .undef
def stB (s : St) : Option Blk := some (.cells [.int .i64 s.a.rows, .int .i64 s.a.cols, .int .i64 s.a.top, .int .i64 s.a.bottom, .bool s.a.org, .int .u8 s.a.base, .int .i64 s.c.row, .int .i64 s.c.col, .bool s.c.wrap, .int .u8 s.c.lab])
abbrev Sts := List Ac
theorem stays_sem (p q : Int) (hp : 0 ≤ p ∧ p ≤ 65535) (hq : 0 ≤ q ∧ q ≤ 65535) (b : Bool) (xs : List Ac) (hx : ∀ x ∈ xs, x.ok) : Sem Try.prog 4 [.agg [.int .u16 p, .int .u16 q], .bool b, .psl 4 (xs.map Ac.l) .any] [] fun v _ => v = .bool true := by
  refine Sem.of_body tysOk Try.func4 rfl rfl ?_
  refine works_fn.sem _ ?_
  refine BCase.no rfl ?_
  refine (begun_fn p q hp hq b).sem _ ?_
  have hbeg : right (begS (p % 40) (q % 40) (if b = true then 1 else 0)) := beg_right _ _ _ (by split <;> omega) (by split <;> omega)
  generalize begS (p % 40) (q % 40) (if b = true then 1 else 0) = s0 at hbeg ⊢
  refine LoopP.inv (fun k env h => ∃ (i : Nat) (s : St), i + k = 60 ∧ right s ∧ h = [some (.cells [.int .u16 p, .int .u16 q]), stB s] ∧ env = envS (.psl 4 (xs.map Ac.l) .any) i) 60 ?_ ?_
  · refine ⟨_, _, .same ?_ rfl, 0, s0, by omega, hbeg, rfl, rfl⟩
    repeat (first | exact trivial | refine ⟨.inl rfl, ?_⟩ | refine ⟨.inr rfl, ?_⟩)
  · rintro k env h ⟨i, s, hik, hs, rfl, rfl⟩
    have hlen : (xs.map Ac.l).length = xs.length := List.length_map _
    refine ⟨fun h1 => ?_, fun h1 => ?_⟩
    · have hi : i < xs.length := by simpa using h1
      refine BCase.yes rfl ?_
      refine ⟨fun h2 => ?_, fun h2 => ?_⟩
      · have h2' : i < 60 := by
          have h3 : (i : Int) < 60 := by simpa using h2
          omega
        have hxi := hx _ (List.getElem_mem hi)
        refine DrawP.intro tysOk mixed ?_
        refine ⟨Ac.l xs[i], ⟨by omega, by simp [hi]⟩, ?_⟩
        refine ⟨_, does_fn xs[i] hxi s hs, ?_⟩
        refine ⟨by kernel_rfl, ?_⟩
        have ht := does_right (x := xs[i]) hs
        have F := doesW_facts (xs[i].what.tmod 16) xs[i] s hs
        change Facts _ s (doesS xs[i] s).1 (doesS xs[i] s).2 at F
        generalize doesS xs[i] s = T at ht F ⊢
        obtain ⟨⟨⟨rows, cols, top, bottom, org, base⟩, ⟨row, col, wrap, lab⟩⟩, is⟩ := T
        have hb := F.base
        simp only at hb
        subst hb
        refine (right_fn _ ht).sem _ ?_
        refine BCase.no rfl ?_
        repeat (first | refine BCase.yes rfl ?_ | refine BCase.no rfl ?_)
        refine BCase.no (bne_self_eq_false _) ?_
        refine ⟨Ac.l xs[i], ⟨by omega, by simp [hi]⟩, ?_⟩
        refine ⟨by decide, ?_⟩
        have hw : 0 ≤ xs[i].what.tmod 16 ∧ xs[i].what.tmod 16 ≤ 15 := by
          rw [Int.tmod_eq_emod_of_nonneg hxi.w1]; omega
        generalize xs[i].what.tmod 16 = w at F hw ⊢
        have hcase : (((w = 0 ∧ is = true) ∨ w = 2 ∨ w = 3 ∨ w = 4) ∧ lab = s.a.base ∧ wrap = false) ∨ (¬ ((w = 0 ∧ is = true) ∨ w = 2 ∨ w = 3 ∨ w = 4) ∧ (w ≠ 14 → lab = s.c.lab) ∧ (5 ≤ w → w ≤ 13 → wrap = false)) := by
          by_cases hh : (w = 0 ∧ is = true) ∨ w = 2 ∨ w = 3 ∨ w = 4
          · exact .inl ⟨hh, F.homes hh⟩
          · exact .inr ⟨hh, F.keeps hh, F.moves⟩
        clear F
        rcases hcase with ⟨hh, rfl, rfl⟩ | ⟨hh, hlab, hwrap⟩
        · rcases hh with ⟨rfl, rfl⟩ | rfl | rfl | rfl
          all_goals
            repeat (first | refine BCase.yes rfl ?_ | refine BCase.no rfl ?_ | refine BCase.no (bne_self_eq_false _) ?_)
            refine ⟨k - 1, _, [_, _], by omega, .cut ?_ (Nat.le_refl 2) rfl rfl, i + 1, _, by omega, ht, rfl, rfl⟩
            unfold envS
            rw [show ((i + 1 : Nat) : Int) = IntKind.i64.wrap ((i : Int) + 1) from (wr64 (by omega) (by omega)).symm]
            repeat (first | exact trivial | refine ⟨.inl rfl, ?_⟩ | refine ⟨.inr rfl, ?_⟩)
        · rcases (by omega : w = 0 ∨ w = 1 ∨ w = 15 ∨ w = 14 ∨ (5 ≤ w ∧ w ≤ 13)) with rfl | rfl | rfl | rfl | h513
          · cases is
            · have e := hlab (by omega)
              subst e
              repeat (first | refine BCase.yes rfl ?_ | refine BCase.no rfl ?_ | refine BCase.no (bne_self_eq_false _) ?_)
              refine ⟨k - 1, _, [_, _], by omega, .cut ?_ (Nat.le_refl 2) rfl rfl, i + 1, _, by omega, ht, rfl, rfl⟩
              unfold envS
              rw [show ((i + 1 : Nat) : Int) = IntKind.i64.wrap ((i : Int) + 1) from (wr64 (by omega) (by omega)).symm]
              repeat (first | exact trivial | refine ⟨.inl rfl, ?_⟩ | refine ⟨.inr rfl, ?_⟩)
            · exact absurd (.inl ⟨rfl, rfl⟩) hh
          · have e := hlab (by omega)
            subst e
            repeat (first | refine BCase.yes rfl ?_ | refine BCase.no rfl ?_ | refine BCase.no (bne_self_eq_false _) ?_)
            refine ⟨k - 1, _, [_, _], by omega, .cut ?_ (Nat.le_refl 2) rfl rfl, i + 1, _, by omega, ht, rfl, rfl⟩
            unfold envS
            rw [show ((i + 1 : Nat) : Int) = IntKind.i64.wrap ((i : Int) + 1) from (wr64 (by omega) (by omega)).symm]
            repeat (first | exact trivial | refine ⟨.inl rfl, ?_⟩ | refine ⟨.inr rfl, ?_⟩)
          · have e := hlab (by omega)
            subst e
            repeat (first | refine BCase.yes rfl ?_ | refine BCase.no rfl ?_ | refine BCase.no (bne_self_eq_false _) ?_)
            refine ⟨k - 1, _, [_, _], by omega, .cut ?_ (Nat.le_refl 2) rfl rfl, i + 1, _, by omega, ht, rfl, rfl⟩
            unfold envS
            rw [show ((i + 1 : Nat) : Int) = IntKind.i64.wrap ((i : Int) + 1) from (wr64 (by omega) (by omega)).symm]
            repeat (first | exact trivial | refine ⟨.inl rfl, ?_⟩ | refine ⟨.inr rfl, ?_⟩)
          · skip
            repeat (first | refine BCase.yes rfl ?_ | refine BCase.no rfl ?_ | refine BCase.no (bne_self_eq_false _) ?_)
            refine ⟨k - 1, _, [_, _], by omega, .cut ?_ (Nat.le_refl 2) rfl rfl, i + 1, _, by omega, ht, rfl, rfl⟩
            unfold envS
            rw [show ((i + 1 : Nat) : Int) = IntKind.i64.wrap ((i : Int) + 1) from (wr64 (by omega) (by omega)).symm]
            repeat (first | exact trivial | refine ⟨.inl rfl, ?_⟩ | refine ⟨.inr rfl, ?_⟩)
          · have e := hlab (by omega)
            subst e
            have e := hwrap h513.1 h513.2
            subst e
            rcases (by omega : w = 5 ∨ w = 6 ∨ w = 7 ∨ w = 8 ∨ w = 9 ∨ w = 10 ∨ w = 11 ∨ w = 12 ∨ w = 13) with rfl | rfl | rfl | rfl | rfl | rfl | rfl | rfl | rfl
            all_goals
              repeat (first | refine BCase.yes rfl ?_ | refine BCase.no rfl ?_ | refine BCase.no (bne_self_eq_false _) ?_)
              refine ⟨k - 1, _, [_, _], by omega, .cut ?_ (Nat.le_refl 2) rfl rfl, i + 1, _, by omega, ht, rfl, rfl⟩
              unfold envS
              rw [show ((i + 1 : Nat) : Int) = IntKind.i64.wrap ((i : Int) + 1) from (wr64 (by omega) (by omega)).symm]
              repeat (first | exact trivial | refine ⟨.inl rfl, ?_⟩ | refine ⟨.inr rfl, ?_⟩)
      · refine (right_fn _ hs).sem _ ?_
        rfl
    · refine BCase.no rfl ?_
      refine BCase.no rfl ?_
      refine (right_fn _ hs).sem _ ?_
      rfl
end Go.Cv
