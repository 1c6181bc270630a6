/- What functions of this seat compute, each for every argument of the shapes that are named; no condition beside the stated ones. -/
import Derived.Test.YtphpngpfllealaaLX14
namespace Go.Cv
open Go.Proofs
set_option maxRecDepth 100000
set_option maxHeartbeats 4000000

def envM (i : Int) (d r : Int) : List V := .undef :: .undef :: .undef :: .undef :: .undef :: .undef :: .undef :: .undef :: .undef :: .ptr 7 0 :: .ptr 8 0 :: .int .i64 d :: .int .i64 r :: .ptr 9 0 :: .ptr 12 0 :: .ptr 13 0 :: List.replicate 245 .undef
def hpM (a : Ar) (c m x y : Cu) : Heap := [none, none, none, none, none, none, none, arB a, cuB c, cuB m, none, none, cuB x, cuB y]
/-- Moves back, and what is left behind. -/
theorem mB (a : Ar) (ha : a.ok) (c : Cu) (hc : c.inn a) (d r : Int) (hd : 0 ≤ d ∧ d ≤ 512) (hr : 0 ≤ r ∧ r ≤ 512) :
    Wp Try.prog (tabOf tys) (tails code6 13) (envM 0 d r) (hpM a c (moveS a c d r) (moveS a c d r) (moveS a c (-d) (-r))) fun x env' h' => match x with | .exit _ => False | _ => retP (tabOf tys) Try.f6.results.toList env' h' fun v _ => v = .bool true := by
  have eD : IntKind.i64.wrap (0 - d) = -d := by rw [wr64 (by omega) (by omega)]; omega
  have eR : IntKind.i64.wrap (0 - r) = -r := by rw [wr64 (by omega) (by omega)]; omega
  have hm := move_inn ha hc d r
  refine Wp.seq (Wp.of tysOk ?_)
  refine DrawP.intro tysOk mixed ?_
  refine BCase.no (ne_cu _ _ _ _) ?_
  repeat (first | refine BCase.yes rfl ?_ | refine BCase.no rfl ?_)
  rw [eD, eR]
  refine ⟨_, move_fn a ha c hc _ _, ?_⟩
  repeat (first | refine BCase.yes rfl ?_ | refine BCase.no rfl ?_)
  refine ⟨by kernel_rfl, ?_⟩
  refine BCase.no (ne_cu _ _ _ _) ?_
  conv => whnf
  refine Wp.seq (Wp.of tysOk ?_)
  have em := move_dr hc hd hr
  have er : (moveS a c d r).row = downS a c d := by rw [em]
  have ek : (moveS a c d r).col = rightS a c r := by rw [em]
  have w1 : IntKind.i64.wrap (c.row + d) = c.row + d := wr64 (by have := hc.r1; omega) (by have := hc.r2; have := ha.r2; omega)
  have w2 : IntKind.i64.wrap (c.col + r) = c.col + r := wr64 (by have := hc.c1; omega) (by have := hc.c2; have := ha.c2; omega)
  refine ⟨fun q1 => ?_, fun q1 => ?_⟩
  · have e1 : downS a c d = c.row + d := by rw [← er, ← w1]; simpa using q1
    repeat (first | refine BCase.yes rfl ?_ | refine BCase.no rfl ?_)
    refine ⟨fun q2 => ?_, fun q2 => ?_⟩
    · have e2 : rightS a c r = c.col + r := by rw [← ek, ← w2]; simpa using q2
      repeat (first | refine BCase.yes rfl ?_ | refine BCase.no rfl ?_)
      refine ⟨fun q3 => ?_, fun q3 => ?_⟩
      · have h3 : c.row ≥ a.top ∨ downS a c d < a.top := .inl (of_decide_eq_true q3)
        repeat (first | refine BCase.yes rfl ?_ | refine BCase.no rfl ?_)
        refine ⟨fun q5 => ?_, fun q5 => ?_⟩
        · skip
          repeat (first | refine BCase.yes rfl ?_ | refine BCase.no rfl ?_)
          refine (move_fn a ha _ hm _ _).sem _ ?_
          have hbk := back_eq ha hc hd hr e1 e2 h3
          rw [← eD, ← eR] at hbk
          refine BCase.no (by rw [hbk.1]; exact bne_self_eq_false _) ?_
          repeat (first | refine BCase.yes rfl ?_ | refine BCase.no rfl ?_)
          refine BCase.no (by rw [hbk.2]; exact bne_self_eq_false _) ?_
          repeat (first | refine BCase.yes rfl ?_ | refine BCase.no rfl ?_)
          conv => whnf
          refine Wp.weakT ?_ ?_ (mA a ha c hc _ (.inr rfl))
          · repeat (first | exact trivial | refine ⟨.inl rfl, ?_⟩ | refine ⟨.inr (.inl rfl), ?_⟩)
          · repeat (first | exact trivial | refine ⟨.inl rfl, ?_⟩ | refine ⟨.inr rfl, ?_⟩)
        · repeat (first | refine BCase.yes rfl ?_ | refine BCase.no rfl ?_)
          refine ⟨fun q6 => ?_, fun q6 => ?_⟩
          · repeat (first | refine BCase.yes rfl ?_ | refine BCase.no rfl ?_)
            refine ⟨fun q7 => ?_, fun q7 => ?_⟩
            · skip
              repeat (first | refine BCase.yes rfl ?_ | refine BCase.no rfl ?_)
              refine (move_fn a ha _ hm _ _).sem _ ?_
              have hbk := back_eq ha hc hd hr e1 e2 h3
              rw [← eD, ← eR] at hbk
              refine BCase.no (by rw [hbk.1]; exact bne_self_eq_false _) ?_
              repeat (first | refine BCase.yes rfl ?_ | refine BCase.no rfl ?_)
              refine BCase.no (by rw [hbk.2]; exact bne_self_eq_false _) ?_
              repeat (first | refine BCase.yes rfl ?_ | refine BCase.no rfl ?_)
              conv => whnf
              refine Wp.weakT ?_ ?_ (mA a ha c hc _ (.inr rfl))
              · repeat (first | exact trivial | refine ⟨.inl rfl, ?_⟩ | refine ⟨.inr (.inl rfl), ?_⟩)
              · repeat (first | exact trivial | refine ⟨.inl rfl, ?_⟩ | refine ⟨.inr rfl, ?_⟩)
            · skip
              repeat (first | refine BCase.yes rfl ?_ | refine BCase.no rfl ?_)
              conv => whnf
              refine Wp.weakT ?_ ?_ (mA a ha c hc _ (.inl rfl))
              · repeat (first | exact trivial | refine ⟨.inl rfl, ?_⟩ | refine ⟨.inr (.inl rfl), ?_⟩)
              · repeat (first | exact trivial | refine ⟨.inl rfl, ?_⟩ | refine ⟨.inr rfl, ?_⟩)
          · skip
            repeat (first | refine BCase.yes rfl ?_ | refine BCase.no rfl ?_)
            conv => whnf
            refine Wp.weakT ?_ ?_ (mA a ha c hc _ (.inl rfl))
            · repeat (first | exact trivial | refine ⟨.inl rfl, ?_⟩ | refine ⟨.inr (.inl rfl), ?_⟩)
            · repeat (first | exact trivial | refine ⟨.inl rfl, ?_⟩ | refine ⟨.inr rfl, ?_⟩)
      · repeat (first | refine BCase.yes rfl ?_ | refine BCase.no rfl ?_)
        refine ⟨fun q4 => ?_, fun q4 => ?_⟩
        · have h3 : c.row ≥ a.top ∨ downS a c d < a.top := .inr (by rw [← er]; exact of_decide_eq_true q4)
          repeat (first | refine BCase.yes rfl ?_ | refine BCase.no rfl ?_)
          refine ⟨fun q5 => ?_, fun q5 => ?_⟩
          · skip
            repeat (first | refine BCase.yes rfl ?_ | refine BCase.no rfl ?_)
            refine (move_fn a ha _ hm _ _).sem _ ?_
            have hbk := back_eq ha hc hd hr e1 e2 h3
            rw [← eD, ← eR] at hbk
            refine BCase.no (by rw [hbk.1]; exact bne_self_eq_false _) ?_
            repeat (first | refine BCase.yes rfl ?_ | refine BCase.no rfl ?_)
            refine BCase.no (by rw [hbk.2]; exact bne_self_eq_false _) ?_
            repeat (first | refine BCase.yes rfl ?_ | refine BCase.no rfl ?_)
            conv => whnf
            refine Wp.weakT ?_ ?_ (mA a ha c hc _ (.inr rfl))
            · repeat (first | exact trivial | refine ⟨.inl rfl, ?_⟩ | refine ⟨.inr (.inl rfl), ?_⟩)
            · repeat (first | exact trivial | refine ⟨.inl rfl, ?_⟩ | refine ⟨.inr rfl, ?_⟩)
          · repeat (first | refine BCase.yes rfl ?_ | refine BCase.no rfl ?_)
            refine ⟨fun q6 => ?_, fun q6 => ?_⟩
            · repeat (first | refine BCase.yes rfl ?_ | refine BCase.no rfl ?_)
              refine ⟨fun q7 => ?_, fun q7 => ?_⟩
              · skip
                repeat (first | refine BCase.yes rfl ?_ | refine BCase.no rfl ?_)
                refine (move_fn a ha _ hm _ _).sem _ ?_
                have hbk := back_eq ha hc hd hr e1 e2 h3
                rw [← eD, ← eR] at hbk
                refine BCase.no (by rw [hbk.1]; exact bne_self_eq_false _) ?_
                repeat (first | refine BCase.yes rfl ?_ | refine BCase.no rfl ?_)
                refine BCase.no (by rw [hbk.2]; exact bne_self_eq_false _) ?_
                repeat (first | refine BCase.yes rfl ?_ | refine BCase.no rfl ?_)
                conv => whnf
                refine Wp.weakT ?_ ?_ (mA a ha c hc _ (.inr rfl))
                · repeat (first | exact trivial | refine ⟨.inl rfl, ?_⟩ | refine ⟨.inr (.inl rfl), ?_⟩)
                · repeat (first | exact trivial | refine ⟨.inl rfl, ?_⟩ | refine ⟨.inr rfl, ?_⟩)
              · skip
                repeat (first | refine BCase.yes rfl ?_ | refine BCase.no rfl ?_)
                conv => whnf
                refine Wp.weakT ?_ ?_ (mA a ha c hc _ (.inl rfl))
                · repeat (first | exact trivial | refine ⟨.inl rfl, ?_⟩ | refine ⟨.inr (.inl rfl), ?_⟩)
                · repeat (first | exact trivial | refine ⟨.inl rfl, ?_⟩ | refine ⟨.inr rfl, ?_⟩)
            · skip
              repeat (first | refine BCase.yes rfl ?_ | refine BCase.no rfl ?_)
              conv => whnf
              refine Wp.weakT ?_ ?_ (mA a ha c hc _ (.inl rfl))
              · repeat (first | exact trivial | refine ⟨.inl rfl, ?_⟩ | refine ⟨.inr (.inl rfl), ?_⟩)
              · repeat (first | exact trivial | refine ⟨.inl rfl, ?_⟩ | refine ⟨.inr rfl, ?_⟩)
        · skip
          repeat (first | refine BCase.yes rfl ?_ | refine BCase.no rfl ?_)
          conv => whnf
          refine Wp.weakT ?_ ?_ (mA a ha c hc _ (.inl rfl))
          · repeat (first | exact trivial | refine ⟨.inl rfl, ?_⟩ | refine ⟨.inr (.inl rfl), ?_⟩)
          · repeat (first | exact trivial | refine ⟨.inl rfl, ?_⟩ | refine ⟨.inr rfl, ?_⟩)
    · skip
      repeat (first | refine BCase.yes rfl ?_ | refine BCase.no rfl ?_)
      conv => whnf
      refine Wp.weakT ?_ ?_ (mA a ha c hc _ (.inl rfl))
      · repeat (first | exact trivial | refine ⟨.inl rfl, ?_⟩ | refine ⟨.inr (.inl rfl), ?_⟩)
      · repeat (first | exact trivial | refine ⟨.inl rfl, ?_⟩ | refine ⟨.inr rfl, ?_⟩)
  · skip
    repeat (first | refine BCase.yes rfl ?_ | refine BCase.no rfl ?_)
    conv => whnf
    refine Wp.weakT ?_ ?_ (mA a ha c hc _ (.inl rfl))
    · repeat (first | exact trivial | refine ⟨.inl rfl, ?_⟩ | refine ⟨.inr (.inl rfl), ?_⟩)
    · repeat (first | exact trivial | refine ⟨.inl rfl, ?_⟩ | refine ⟨.inr rfl, ?_⟩)
end Go.Cv
