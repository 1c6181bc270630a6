/- What functions of this seat compute, each for every argument of the shapes that are named; no condition beside the stated ones. -/
import Derived.Test.YtphpngpfllealaaLX6
namespace Go.Cv
open Go.Proofs
set_option maxRecDepth 100000
set_option maxHeartbeats 4000000

theorem named_fn (a : Ar) (ha : a.ok) (p : Int) : Fn Try.prog 45 [a.v, .int .i64 p] (.int .i64 (rowS a p)) := by
  obtain ⟨rows, cols, top, bottom, org, base⟩ := a
  obtain ⟨r1, r2, c1, c2, t, b, tb, l1, l2⟩ := ha
  simp only at r1 r2 c1 c2 t b tb l1 l2
  refine Fn.of_body tysOk Try.func45 rfl rfl rfl rfl ?_
  cases org
  · refine BCase.no rfl ?_
    refine (rwithin_fn _ _ _).sem _ ?_
    refine congrArg (V.int .i64) ?_
    simp only [rowS, wi, IntKind.wrap_i64, Bool.false_eq_true, if_false]
    omega
  · refine BCase.yes rfl ?_
    refine DrawP.intro tysOk mixed ?_
    refine ⟨_, rwithin_fn _ _ _, ?_⟩
    refine ⟨by kernel_rfl, ?_⟩
    refine congrArg (V.int .i64) ?_
    rw [min_if, wr64 (n := top + wi p 1 rows) (by unfold wi; omega) (by unfold wi; omega), wr64 (by unfold wi; omega) (by unfold wi; omega)]
    simp only [rowS, wi, if_true]
    omega
theorem rgoto_fn (a : Ar) (ha : a.ok) (r k : Int) : Fn Try.prog 20 [a.v, .int .i64 r, .int .i64 k] (gotoS a r k).v := by
  have h1 := ha.c1; have h2 := ha.c2
  refine Fn.of_body tysOk Try.func20 rfl rfl rfl rfl ?_
  refine DrawP.intro tysOk mixed ?_
  refine ⟨_, named_fn a ha _, ?_⟩
  refine ⟨_, rwithin_fn _ _ _, ?_⟩
  refine ⟨by kernel_rfl, ?_⟩
  exact cu_eq rfl (wr64 (by unfold wi; omega) (by unfold wi; omega)) rfl rfl
theorem rhome_fn (a : Ar) (ha : a.ok) : Fn Try.prog 12 [a.v] (homeS a).v := by
  refine Fn.of_body tysOk Try.func12 rfl rfl rfl rfl ?_
  refine (rgoto_fn a ha _ _).sem _ ?_
  rfl
theorem rresize_fn (a : Ar) (r k : Int) : Fn Try.prog 34 [a.v, .int .i64 r, .int .i64 k] (resizeS a r k).v := by
  refine Fn.of_body tysOk Try.func34 rfl rfl rfl rfl ?_
  refine (rwithin_fn _ _ _).sem _ ?_
  refine (rwithin_fn _ _ _).sem _ ?_
  show V.agg [.int .i64 (wi r 1 512), .int .i64 (wi k 1 512), .int .i64 0, .int .i64 (IntKind.i64.wrap (wi r 1 512 - 1)), .bool a.org, .int .u8 a.base] = _
  rw [wr64 (by unfold wi; omega) (by unfold wi; omega)]
  rfl
theorem rnew_fn (r k b : Int) : Fn Try.prog 10 [.int .i64 r, .int .i64 k, .int .u8 b] (newS r k b).v := by
  refine Fn.of_body tysOk Try.func10 rfl rfl rfl rfl ?_
  refine (rresize_fn ⟨0, 0, 0, 0, false, b⟩ _ _).sem _ ?_
  rfl
theorem rmargins_fn (a : Ar) (ha : a.ok) (t b : Int) : Fn Try.prog 36 [a.v, .int .i64 t, .int .i64 b] (.tup [(marginsS a t b).1.v, .bool (marginsS a t b).2]) := by
  have r2 := ha.r2
  have r1 := ha.r1
  have mx : (if t > 1 then t else 1) = max t 1 := by split <;> omega
  -- what is left when the bottom is known
  have key : ∀ (B : Int), B = min (if b < 1 then a.rows else b) a.rows → (decide (B ≤ if t > 1 then t else 1) = true → marginsS a t b = (a, false)) ∧ (decide (B ≤ if t > 1 then t else 1) = false → marginsS a t b = ({ a with top := max t 1 - 1, bottom := B - 1 }, true) ∧ IntKind.i64.wrap ((if t > 1 then t else 1) - 1) = max t 1 - 1 ∧ IntKind.i64.wrap (B - 1) = B - 1) := by
    intro B hB
    rw [mx]
    refine ⟨fun h => ?_, fun h => ?_⟩
    · have h : B ≤ max t 1 := of_decide_eq_true h
      unfold marginsS
      rw [← hB, if_pos h]
    · have h : ¬ B ≤ max t 1 := of_decide_eq_false h
      have hB2 : B ≤ a.rows := by rw [hB]; omega
      refine ⟨?_, wr64 (by omega) (by omega), wr64 (by omega) (by omega)⟩
      unfold marginsS
      rw [← hB, if_neg h]
  refine Fn.of_body tysOk Try.func36 rfl rfl rfl (by unfold marginsS; split <;> rfl) ?_
  refine ⟨fun h => ?_, fun h => ?_⟩
  · have h : b < 1 := of_decide_eq_true h
    repeat (first | refine BCase.yes rfl ?_ | refine BCase.no rfl ?_)
    have k := key a.rows (by rw [if_pos h]; omega)
    refine ⟨fun g => ?_, fun g => ?_⟩
    · rw [k.1 g]; rfl
    · obtain ⟨k1, k2, k3⟩ := k.2 g
      rw [k1]
      exact congrArg (fun z => V.tup [z, .bool true]) (ar_eq rfl rfl k2 k3 rfl rfl)
  · have h : ¬ b < 1 := of_decide_eq_false h
    repeat (first | refine BCase.yes rfl ?_ | refine BCase.no rfl ?_)
    refine ⟨fun h' => ?_, fun h' => ?_⟩
    · have h' : b > a.rows := of_decide_eq_true h'
      repeat (first | refine BCase.yes rfl ?_ | refine BCase.no rfl ?_)
      have k := key a.rows (by rw [if_neg h]; omega)
      refine ⟨fun g => ?_, fun g => ?_⟩
      · rw [k.1 g]; rfl
      · obtain ⟨k1, k2, k3⟩ := k.2 g
        rw [k1]
        exact congrArg (fun z => V.tup [z, .bool true]) (ar_eq rfl rfl k2 k3 rfl rfl)
    · have h' : ¬ b > a.rows := of_decide_eq_false h'
      repeat (first | refine BCase.yes rfl ?_ | refine BCase.no rfl ?_)
      have k := key b (by rw [if_neg h]; omega)
      refine ⟨fun g => ?_, fun g => ?_⟩
      · rw [k.1 g]; rfl
      · obtain ⟨k1, k2, k3⟩ := k.2 g
        rw [k1]
        exact congrArg (fun z => V.tup [z, .bool true]) (ar_eq rfl rfl k2 k3 rfl rfl)
theorem rline_fn (a : Ar) (ha : a.ok) (c : Cu) (r : Int) : Fn Try.prog 37 [a.v, c.v, .int .i64 r] (lineS a c r).v := by
  refine Fn.of_body tysOk Try.func37 rfl rfl rfl rfl ?_
  refine (named_fn a ha _).sem _ ?_
  rfl
theorem rcolumn_fn (a : Ar) (ha : a.ok) (c : Cu) (k : Int) : Fn Try.prog 38 [a.v, c.v, .int .i64 k] (colS a c k).v := by
  have h1 := ha.c1; have h2 := ha.c2
  refine Fn.of_body tysOk Try.func38 rfl rfl rfl rfl ?_
  refine (rwithin_fn _ _ _).sem _ ?_
  exact cu_eq rfl (wr64 (by unfold wi; omega) (by unfold wi; omega)) rfl rfl
theorem rindex_fn (a : Ar) (ha : a.ok) (c : Cu) (hc : c.inn a) : Fn Try.prog 39 [a.v, c.v] (.tup [(indexS a c).1.v, .bool (indexS a c).2]) := by
  obtain ⟨h1, h2, h3, h4, h5, h6, h7, h8, h9⟩ := ha
  obtain ⟨g1, g2, g3, g4, g5, g6, g7⟩ := hc
  refine Fn.of_body tysOk Try.func39 rfl rfl rfl (by unfold indexS; split <;> rfl) ?_
  refine ⟨fun h => ?_, fun h => ?_⟩
  · have h : c.row = a.bottom := by simpa using h
    show V.tup [(stopS c).v, .bool true] = _
    simp only [indexS, if_pos h]
  · have h : ¬ c.row = a.bottom := by simpa using h
    show V.tup [.agg [.int .i64 (if IntKind.i64.wrap (a.rows - 1) < IntKind.i64.wrap (c.row + 1) then IntKind.i64.wrap (a.rows - 1) else IntKind.i64.wrap (c.row + 1)), .int .i64 c.col, .bool false, .int .u8 c.lab], .bool false] = _
    rw [min_if, wr64 (by omega) (by omega), wr64 (by omega) (by omega)]
    simp only [indexS, if_neg h]
    have e1 : wi 1 (-512) 512 = 1 := by decide
    have e0 : wi 0 (-512) 512 = 0 := by decide
    refine congrArg (fun z => V.tup [z, .bool false]) (cu_eq ?_ ?_ rfl rfl)
    · rw [e1, if_pos (by omega)]; unfold lastS; split <;> omega
    · rw [e0]; unfold wi; omega
theorem rreverse_fn (a : Ar) (ha : a.ok) (c : Cu) (hc : c.inn a) : Fn Try.prog 40 [a.v, c.v] (.tup [(revS a c).1.v, .bool (revS a c).2]) := by
  obtain ⟨h1, h2, h3, h4, h5, h6, h7, h8, h9⟩ := ha
  obtain ⟨g1, g2, g3, g4, g5, g6, g7⟩ := hc
  refine Fn.of_body tysOk Try.func40 rfl rfl rfl (by unfold revS; split <;> rfl) ?_
  refine ⟨fun h => ?_, fun h => ?_⟩
  · have h : c.row = a.top := by simpa using h
    show V.tup [(stopS c).v, .bool true] = _
    simp only [revS, if_pos h]
  · have h : ¬ c.row = a.top := by simpa using h
    show V.tup [.agg [.int .i64 (if 0 > IntKind.i64.wrap (c.row - 1) then 0 else IntKind.i64.wrap (c.row - 1)), .int .i64 c.col, .bool false, .int .u8 c.lab], .bool false] = _
    rw [wr64 (by omega) (by omega)]
    simp only [revS, if_neg h]
    have e1 : wi (-1) (-512) 512 = -1 := by decide
    have e0 : wi 0 (-512) 512 = 0 := by decide
    refine congrArg (fun z => V.tup [z, .bool false]) (cu_eq ?_ ?_ rfl rfl)
    · rw [show (if 0 > c.row - 1 then 0 else c.row - 1) = max (c.row - 1) 0 by split <;> omega, e1, if_neg (show ¬ (-1 : Int) > 0 by omega), if_pos (show (-1 : Int) < 0 by omega)]; unfold firstS; split <;> omega
    · rw [e0]; unfold wi; omega
theorem rmove_fn (a : Ar) (ha : a.ok) (c : Cu) (hc : c.inn a) (r k : Int) : Fn Try.prog 22 [a.v, c.v, .int .i64 r, .int .i64 k] (moveS a c r k).v := by
  generalize hr' : wi r (-512) 512 = r'
  have hrb : -512 ≤ r' ∧ r' ≤ 512 := by subst hr'; unfold wi; omega
  obtain ⟨h1, h2, h3, h4, h5, h6, h7, h8, h9⟩ := ha
  obtain ⟨g1, g2, g3, g4, g5, g6, g7⟩ := hc
  have colE : wi (IntKind.i64.wrap (c.col + wi k (-512) 512)) 0 (IntKind.i64.wrap (a.cols - 1)) = wi (c.col + wi k (-512) 512) 0 (a.cols - 1) := by
    rw [wr64 (by unfold wi; omega) (by unfold wi; omega), wr64 (by omega) (by omega)]
  have eA : IntKind.i64.wrap (c.row + r') = c.row + r' := wr64 (by omega) (by omega)
  have eR : IntKind.i64.wrap (a.rows - 1) = a.rows - 1 := wr64 (by omega) (by omega)
  refine Fn.of_body tysOk Try.func22 rfl rfl rfl rfl ?_
  refine DrawP.intro tysOk mixed ?_
  refine ⟨by kernel_rfl, ?_⟩
  refine ⟨fun p => ?_, fun p => ?_⟩
  · have p := of_decide_eq_true p
    refine ⟨fun q => ?_, fun q => ?_⟩
    · have q := of_decide_eq_true q
      refine (rwithin_fn _ _ _).sem _ ?_
      refine (rwithin_fn _ _ _).sem _ ?_
      rw [hr']
      refine ⟨fun h => ?_, fun h => ?_⟩
      · have h : r' > 0 := of_decide_eq_true h
        refine BCase.no (decide_eq_false (by omega)) ?_
        refine (rwithin_fn _ _ _).sem _ ?_
        refine cu_eq ?_ colE rfl rfl
        rw [hr', if_pos h, eA]
        (try rw [eR])
        unfold lastS
        split <;> (try split) <;> omega
      · have h : ¬ r' > 0 := of_decide_eq_false h
        refine ⟨fun g => ?_, fun g => ?_⟩
        · have g : r' < 0 := of_decide_eq_true g
          refine (rwithin_fn _ _ _).sem _ ?_
          refine cu_eq ?_ colE rfl rfl
          rw [hr', if_neg h, if_pos g, eA]
          unfold firstS
          split <;> (try split) <;> omega
        · have g : ¬ r' < 0 := of_decide_eq_false g
          refine (rwithin_fn _ _ _).sem _ ?_
          refine cu_eq ?_ colE rfl rfl
          rw [hr', if_neg h, if_neg g]
    · have q := of_decide_eq_false q
      refine (rwithin_fn _ _ _).sem _ ?_
      refine (rwithin_fn _ _ _).sem _ ?_
      rw [hr']
      refine ⟨fun h => ?_, fun h => ?_⟩
      · have h : r' > 0 := of_decide_eq_true h
        refine BCase.no (decide_eq_false (by omega)) ?_
        refine (rwithin_fn _ _ _).sem _ ?_
        refine cu_eq ?_ colE rfl rfl
        rw [hr', if_pos h, eA]
        (try rw [eR])
        unfold lastS
        split <;> (try split) <;> omega
      · have h : ¬ r' > 0 := of_decide_eq_false h
        refine ⟨fun g => ?_, fun g => ?_⟩
        · have g : r' < 0 := of_decide_eq_true g
          refine (rwithin_fn _ _ _).sem _ ?_
          refine cu_eq ?_ colE rfl rfl
          rw [hr', if_neg h, if_pos g, eA]
          unfold firstS
          split <;> (try split) <;> omega
        · have g : ¬ r' < 0 := of_decide_eq_false g
          refine (rwithin_fn _ _ _).sem _ ?_
          refine cu_eq ?_ colE rfl rfl
          rw [hr', if_neg h, if_neg g]
  · have p := of_decide_eq_false p
    refine ⟨fun q => ?_, fun q => ?_⟩
    · have q := of_decide_eq_true q
      refine (rwithin_fn _ _ _).sem _ ?_
      refine (rwithin_fn _ _ _).sem _ ?_
      rw [hr']
      refine ⟨fun h => ?_, fun h => ?_⟩
      · have h : r' > 0 := of_decide_eq_true h
        refine BCase.no (decide_eq_false (by omega)) ?_
        refine (rwithin_fn _ _ _).sem _ ?_
        refine cu_eq ?_ colE rfl rfl
        rw [hr', if_pos h, eA]
        (try rw [eR])
        unfold lastS
        split <;> (try split) <;> omega
      · have h : ¬ r' > 0 := of_decide_eq_false h
        refine ⟨fun g => ?_, fun g => ?_⟩
        · have g : r' < 0 := of_decide_eq_true g
          refine (rwithin_fn _ _ _).sem _ ?_
          refine cu_eq ?_ colE rfl rfl
          rw [hr', if_neg h, if_pos g, eA]
          unfold firstS
          split <;> (try split) <;> omega
        · have g : ¬ r' < 0 := of_decide_eq_false g
          refine (rwithin_fn _ _ _).sem _ ?_
          refine cu_eq ?_ colE rfl rfl
          rw [hr', if_neg h, if_neg g]
    · have q := of_decide_eq_false q
      refine (rwithin_fn _ _ _).sem _ ?_
      refine (rwithin_fn _ _ _).sem _ ?_
      rw [hr']
      refine ⟨fun h => ?_, fun h => ?_⟩
      · have h : r' > 0 := of_decide_eq_true h
        refine BCase.no (decide_eq_false (by omega)) ?_
        refine (rwithin_fn _ _ _).sem _ ?_
        refine cu_eq ?_ colE rfl rfl
        rw [hr', if_pos h, eA]
        (try rw [eR])
        unfold lastS
        split <;> (try split) <;> omega
      · have h : ¬ r' > 0 := of_decide_eq_false h
        refine ⟨fun g => ?_, fun g => ?_⟩
        · have g : r' < 0 := of_decide_eq_true g
          refine (rwithin_fn _ _ _).sem _ ?_
          refine cu_eq ?_ colE rfl rfl
          rw [hr', if_neg h, if_pos g, eA]
          unfold firstS
          split <;> (try split) <;> omega
        · have g : ¬ r' < 0 := of_decide_eq_false g
          refine (rwithin_fn _ _ _).sem _ ?_
          refine cu_eq ?_ colE rfl rfl
          rw [hr', if_neg h, if_neg g]
theorem rreport_fn (a : Ar) (ha : a.ok) (c : Cu) (hc : c.inn a) : Fn Try.prog 16 [a.v, c.v] (.tup [.int .i64 (reportS a c).1, .int .i64 (reportS a c).2]) := by
  have h1 := hc.r1; have h2 := hc.r2; have h3 := hc.c1; have h4 := hc.c2; have h5 := ha.r2; have h6 := ha.c2; have h7 := ha.t; have h8 := ha.tb; have h9 := ha.b
  have e2 : IntKind.i64.wrap (c.col + 1) = c.col + 1 := wr64 (by omega) (by omega)
  refine Fn.of_body tysOk Try.func16 rfl rfl rfl rfl ?_
  refine ⟨fun h => ?_, fun h => ?_⟩
  · refine DrawP.intro tysOk mixed ?_
    refine ⟨by kernel_rfl, ?_⟩
    show V.tup [.int .i64 (if IntKind.i64.wrap (IntKind.i64.wrap (c.row - a.top) + 1) > 1 then IntKind.i64.wrap (IntKind.i64.wrap (c.row - a.top) + 1) else 1), .int .i64 (IntKind.i64.wrap (c.col + 1))] = _
    rw [e2, wr64 (n := c.row - a.top) (by omega) (by omega), wr64 (by omega) (by omega)]
    unfold reportS
    rw [if_pos h, show (if c.row - a.top + 1 > 1 then c.row - a.top + 1 else 1) = max 1 (c.row + 1 - a.top) by split <;> omega]
  · refine DrawP.intro tysOk mixed ?_
    refine ⟨by kernel_rfl, ?_⟩
    show V.tup [.int .i64 (IntKind.i64.wrap (c.row + 1)), .int .i64 (IntKind.i64.wrap (c.col + 1))] = _
    rw [e2, wr64 (by omega) (by omega)]
    unfold reportS
    rw [if_neg (by rw [h]; simp)]
theorem rwithinA_fn (a : Ar) (ha : a.ok) (c : Cu) (hl : 0 ≤ c.lab ∧ c.lab ≤ 1) : Fn Try.prog 18 [a.v, c.v] (withinS a c).v := by
  have e1 : IntKind.i64.wrap (a.rows - 1) = a.rows - 1 := wr64 (by have := ha.r1; omega) (by have := ha.r2; omega)
  have e2 : IntKind.i64.wrap (a.cols - 1) = a.cols - 1 := wr64 (by have := ha.c1; omega) (by have := ha.c2; omega)
  refine Fn.of_body tysOk Try.func18 rfl rfl rfl rfl ?_
  refine DrawP.intro tysOk mixed ?_
  refine ⟨_, rwithin_fn _ _ _, ?_⟩
  refine ⟨_, rwithin_fn _ _ _, ?_⟩
  refine ⟨by kernel_rfl, ?_⟩
  rw [e1, e2]
  have hb1 := ha.l1; have hb2 := ha.l2
  have lb : (if a.base > c.lab then a.base else c.lab) = jn2 c.lab a.base := by unfold jn2; split <;> split <;> omega
  refine ⟨fun h => ?_, fun h => ?_⟩
  · repeat (first | refine BCase.yes rfl ?_ | refine BCase.no rfl ?_)
    refine ⟨fun g => ?_, fun g => ?_⟩
    · repeat (first | refine BCase.yes rfl ?_ | refine BCase.no rfl ?_)
      refine cu_eq rfl rfl ?_ lb
      rw [h, Bool.true_and, g, Bool.true_and]
    · repeat (first | refine BCase.yes rfl ?_ | refine BCase.no rfl ?_)
      refine cu_eq rfl rfl ?_ lb
      rw [g, Bool.false_and, Bool.and_false]
  · repeat (first | refine BCase.yes rfl ?_ | refine BCase.no rfl ?_)
    refine cu_eq rfl rfl ?_ lb
    rw [h, Bool.false_and]
end Go.Cv
