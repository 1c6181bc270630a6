/- What functions of this seat compute, each for every argument of the shapes that are named; no condition beside the stated ones. -/
import Derived.Test.YtchadfgdcncpkaaGreatLI4g
import Derived.Test.YtchadfgdcncpkaaGreatCx27
namespace Go.Cx
open Go.Proofs Go.Row
set_option maxRecDepth 100000
set_option maxHeartbeats 8000000
def step3 (p : Pg) (w e : Int) (wr : Bool) : Pg := if lateB p w && wr then nextS p e else p
theorem step3_ok {p : Pg} (h : p.good) (w e : Int) (wr : Bool) : (step3 p w e wr).ok := by
  unfold step3
  split
  · exact (h.inv.next e trivial).ok
  · exact h.ok
theorem nReady3 (p : Pg) (h : p.good) (w e : Int) (wr : Bool) : Eff Tryz.prog 108 [.ptr 10 0, .ptr 9 0, .ptr 7 0] (rdB p w e wr) (rdB (step3 p w e wr) w e wr) (.tup []) := by
  have hnx := nNext p h e
  have hl := nLate p h w e wr
  refine Eff.of rfl rfl (rd_ok p h.ok w e wr) (rd_ok _ (step3_ok h w e wr) w e wr) (by unfold step3; split <;> exact Nat.le_refl _) (Sem.of_body tysOk md0 Tryz.func108 rfl rfl ?_)
  refine hl.here rfl [] rfl ?_
  unfold step3
  cases hc : lateB p w with
  | true =>
    cases wr with
    | true =>
      repeat (first | refine BCase.yes rfl ?_ | refine BCase.no rfl ?_)
      refine hnx.here (by unfold nextS; split <;> rfl) (hpOf (rdX w e true)) rfl ?_
      exact ⟨rfl, Nat.le_of_ble_eq_true rfl, .inl rfl, .inl rfl, .inl rfl, .inl rfl, .inl rfl, .inl rfl, .inl rfl, .inl rfl, .inl rfl, .inl rfl, .inl rfl, trivial⟩
    | false =>
      repeat (first | refine BCase.yes rfl ?_ | refine BCase.no rfl ?_)
      exact ⟨rfl, Nat.le_of_ble_eq_true rfl, .inl rfl, .inl rfl, .inl rfl, .inl rfl, .inl rfl, .inl rfl, .inl rfl, .inl rfl, .inl rfl, .inl rfl, .inl rfl, trivial⟩
  | false =>
    repeat (first | refine BCase.yes rfl ?_ | refine BCase.no rfl ?_)
    exact ⟨rfl, Nat.le_of_ble_eq_true rfl, .inl rfl, .inl rfl, .inl rfl, .inl rfl, .inl rfl, .inl rfl, .inl rfl, .inl rfl, .inl rfl, .inl rfl, .inl rfl, trivial⟩
def backS (p : Pg) : Pg := { p with c := withinS p.a { p.c with col := p.c.col - 1 } }
def step4 (p : Pg) (w : Int) : Pg := if lateB p w then backS p else p
theorem step4_ok {p : Pg} (h : p.ok) (w : Int) : (step4 p w).ok := by
  unfold step4
  split
  · exact ⟨h.r⟩
  · exact h
theorem nReady4 (p : Pg) (h : p.good) (w e : Int) (wr : Bool) : Eff Tryz.prog 109 [.ptr 10 0, .ptr 7 0] (rdB p w e wr) (rdB (step4 p w) w e wr) (.tup []) := by
  have hl := nLate p h w e wr
  have h1 := h.c.c1
  have h2 := h.c.c2
  have h3 := h.a.c2
  have hw : p.c.col - 1 = IntKind.i64.wrap (p.c.col - 1) := (wri (by omega) (by omega)).symm
  refine Eff.of rfl rfl (rd_ok p h.ok w e wr) (rd_ok _ (step4_ok h.ok w) w e wr) (by unfold step4; split <;> exact Nat.le_refl _) (Sem.of_body tysOk md0 Tryz.func109 rfl rfl ?_)
  refine hl.here rfl [] rfl ?_
  unfold step4
  cases hc : lateB p w with
  | true =>
    repeat (first | refine BCase.yes rfl ?_ | refine BCase.no rfl ?_)
    refine (pCursor p h.ok).here rfl (hpOf (rdX w e wr)) rfl ?_
    have hp := pPlace p h.ok h.a { p.c with col := p.c.col - 1 }
    unfold backS
    rw [hw] at hp ⊢
    refine hp.here rfl (hpOf (rdX w e wr) ++ [_]) rfl ?_
    exact ⟨rfl, Nat.le_of_ble_eq_true rfl, .inl rfl, .inl rfl, .inl rfl, .inl rfl, .inl rfl, .inl rfl, .inl rfl, .inl rfl, .inl rfl, .inl rfl, .inl rfl, trivial⟩
  | false =>
    repeat (first | refine BCase.yes rfl ?_ | refine BCase.no rfl ?_)
    exact ⟨rfl, Nat.le_of_ble_eq_true rfl, .inl rfl, .inl rfl, .inl rfl, .inl rfl, .inl rfl, .inl rfl, .inl rfl, .inl rfl, .inl rfl, .inl rfl, .inl rfl, trivial⟩
def insS (p : Pg) (w e : Int) : Pg := setG p (atG (shG p) p.c.row p.c.col fun r => rinsI r p.c.col w (blankOf p.at_ e))
def step5 (p : Pg) (w e : Int) : Pg := if isOf p.m ⟨false, 4⟩ then insS p w e else p
theorem step5_ok {p : Pg} (h : p.ok) (w e : Int) : (step5 p w e).ok := by
  unfold step5
  split
  · exact setG_ok h _
  · exact h
theorem nReady5 (p : Pg) (h : p.ok) (hg : (shG p).ok) (w e : Int) (wr : Bool) : Eff Tryz.prog 110 [.ptr 7 0, .ptr 8 0] (rdB p w e wr) (rdB (step5 p w e) w e wr) (.tup []) := by
  have hin := pInsert p h hg p.c.row p.c.col w e
  refine Eff.of rfl rfl (rd_ok p h w e wr) (rd_ok _ (step5_ok h w e) w e wr) (by unfold step5; split; exact Nat.le_of_eq (by unfold insS setG; split <;> rfl); exact Nat.le_refl _) (Sem.of_body tysOk md0 Tryz.func110 rfl rfl ?_)
  refine (pModes p h).here rfl (hpOf (rdX w e wr)) rfl ?_
  refine insModeF.sem _ ?_
  refine (mIs p.m ⟨false, 4⟩).sem _ ?_
  unfold step5
  cases hc : isOf p.m ⟨false, 4⟩ with
  | true =>
    repeat (first | refine BCase.yes rfl ?_ | refine BCase.no rfl ?_)
    refine DrawP.intro tysOk mixed false ?_
    refine ⟨_, (nAt p h e).hereR [0, 1, 2, 3, 4, 5, 6] (hpOf (rdX w e wr)) 11 rfl rfl rfl, ?_⟩
    change Eff _ _ _ _ (pgB (insS p w e)) _ at hin
    simp only [if_true]
    generalize insS p w e = q at hin ⊢
    obtain ⟨a, c, g0, g1, ⟨lines, first, most, lab, ver, ge, gs, gh⟩, room, t, m, at_, last, known⟩ := q
    cases lines with
    | nil =>
      refine ⟨_, hin.hereT rfl [0, 1, 2, 3, 4, 5, 6] (hpOf (rdX w e wr)) 11 rfl rfl rfl, ?_⟩
      refine ⟨by kernel_rfl, ?_⟩
      exact ⟨rfl, Nat.le_of_ble_eq_true rfl, .inl rfl, .inl rfl, .inl rfl, .inl rfl, .inl rfl, .inl rfl, .inl rfl, .inl rfl, .inl rfl, .inl rfl, .inl rfl, trivial⟩
    | cons x l =>
      refine ⟨_, hin.hereT rfl [0, 1, 2, 3, 4, 5, 6] (hpOf (rdX w e wr)) 11 rfl rfl rfl, ?_⟩
      refine ⟨by kernel_rfl, ?_⟩
      exact ⟨rfl, Nat.le_of_ble_eq_true rfl, .inl rfl, .inl rfl, .inl rfl, .inl rfl, .inl rfl, .inl rfl, .inl rfl, .inl rfl, .inl rfl, .inl rfl, .inl rfl, trivial⟩
  | false =>
    repeat (first | refine BCase.yes rfl ?_ | refine BCase.no rfl ?_)
    exact ⟨rfl, Nat.le_of_ble_eq_true rfl, .inl rfl, .inl rfl, .inl rfl, .inl rfl, .inl rfl, .inl rfl, .inl rfl, .inl rfl, .inl rfl, .inl rfl, .inl rfl, trivial⟩
end Go.Cx
namespace Go.Cx
open Go.Proofs Go.Row
set_option maxRecDepth 100000
set_option maxHeartbeats 8000000
theorem PgI.step2 {Q : List Cl → Prop} {p : Pg} (h : PgI Q p) (e : Int) (wr : Bool) (hq : Q (List.replicate (shG p).cols (blankOf p.at_ e))) : PgI Q (step2 p e wr) := by
  unfold Cx.step2; split
  · exact h.next e hq
  · exact h
theorem PgI.step3 {Q : List Cl → Prop} {p : Pg} (h : PgI Q p) (w e : Int) (wr : Bool) (hq : Q (List.replicate (shG p).cols (blankOf p.at_ e))) : PgI Q (step3 p w e wr) := by
  unfold Cx.step3; split
  · exact h.next e hq
  · exact h
/-- The same, but that the cursor may wait elsewhere. -/
structure PgF (Q : List Cl → Prop) (p : Pg) : Prop where
  ok : p.ok
  a : p.a.ok
  t : p.t.ok
  c : (stopS p.c).inn p.a
  g0 : GrI Q p.g0 p.a.rows p.a.cols
  g1 : GrI Q p.g1 p.a.rows p.a.cols
theorem PgI.f {Q : List Cl → Prop} {p : Pg} (h : PgI Q p) : PgF Q p := ⟨h.ok, h.a, h.t, ⟨h.c.r1, h.c.r2, h.c.c1, h.c.c2, h.c.l1, h.c.l2, fun h => by cases h⟩, h.g0, h.g1⟩
theorem PgF.sh {Q : List Cl → Prop} {p : Pg} (h : PgF Q p) : GrI Q (shG p) p.a.rows p.a.cols := by unfold shG; split; exact h.g1; exact h.g0
theorem PgF.setG {Q : List Cl → Prop} {p : Pg} (h : PgF Q p) {g : Gr} (hg : GrI Q g p.a.rows p.a.cols) : PgF Q (setG p g) := by
  unfold Cx.setG
  split
  · exact ⟨⟨h.ok.r⟩, h.a, h.t, h.c, h.g0, hg⟩
  · exact ⟨⟨h.ok.r⟩, h.a, h.t, h.c, hg, h.g1⟩
theorem PgF.cur {Q : List Cl → Prop} {p : Pg} (h : PgF Q p) {c : Cu} (hc : c.inn p.a) : PgI Q { p with c := c } := ⟨⟨h.ok.r⟩, h.a, h.t, hc, h.g0, h.g1⟩
theorem withinS_stop {a : Ar} (ha : a.ok) (c : Cu) : (stopS (withinS a c)).inn a := by
  have hi := withinS_inn ha (c := { c with wrap := false }) (fun h => by cases h)
  exact ⟨hi.r1, hi.r2, hi.c1, hi.c2, hi.l1, hi.l2, fun h => by cases h⟩
theorem PgI.step4 {Q : List Cl → Prop} {p : Pg} (h : PgI Q p) (w : Int) : PgF Q (step4 p w) := by
  unfold Cx.step4; split
  · exact ⟨⟨h.ok.r⟩, h.a, h.t, withinS_stop h.a _, h.g0, h.g1⟩
  · exact h.f
theorem PgF.step5 {Q : List Cl → Prop} {p : Pg} (h : PgF Q p) (w e : Int) (hq : ∀ r, r.length = (shG p).cols → Q r → Q (rinsI r p.c.col w (blankOf p.at_ e))) : PgF Q (step5 p w e) := by
  unfold Cx.step5; split
  · exact h.setG (h.sh.at _ _ (fun r => rinsI_len _ _ _ _) hq)
  · exact h
def readyS (p : Pg) (w e : Int) : Pg :=
  let wr := isOf p.m ⟨true, 7⟩
  step5 (step4 (step3 (step2 p e wr) w e wr) w) w e
theorem trueI {p : Pg} (h : p.good) (w e : Int) (wr : Bool) : (step2 p e wr).good ∧ (step3 (step2 p e wr) w e wr).good ∧ PgF (fun _ => True) (step4 (step3 (step2 p e wr) w e wr) w) :=
  have h2 := h.inv.step2 e wr trivial
  have h3 := h2.step3 w e wr trivial
  ⟨h2.good, h3.good, h3.step4 w⟩
theorem PgI_true {p : Pg} (h : p.good) (w e : Int) : PgF (fun _ => True) (readyS p w e) := (trueI h w e _).2.2.step5 w e fun _ _ _ => trivial
theorem nReady (p : Pg) (h : p.good) (w e : Int) : Eff Tryz.prog 60 [penV 0 e, .int .i64 w] (pgB p) (pgB (readyS p w e)) (.tup []) := by
  have hok := pgB_ok p h.ok
  refine Eff.of rfl rfl hok (pgB_ok _ (PgI_true h w e).ok) (Nat.le_refl _) (Sem.of_body tysOk md0 Tryz.func60 rfl rfl ?_)
  refine (pModes p h.ok).here rfl [_, _] rfl ?_
  refine wrapModeF.sem _ ?_
  refine (mIs p.m ⟨true, 7⟩).sem _ ?_
  unfold readyS
  generalize isOf p.m ⟨true, 7⟩ = wr
  obtain ⟨g2, g3, f4⟩ := trueI h w e wr
  have e2 := nReady2 p h w e wr
  have e3 := nReady3 _ g2 w e wr
  have e4 := nReady4 _ g3 w e wr
  have e5 := nReady5 _ f4.ok f4.sh.ok w e wr
  simp only
  generalize step2 p e wr = p2 at e2 e3 e4 e5 g2 g3 f4 ⊢
  generalize step3 p2 w e wr = p3 at e3 e4 e5 g3 f4 ⊢
  generalize step4 p3 w = p4 at e4 e5 f4 ⊢
  generalize step5 p4 w e = p5 at e5 ⊢
  refine LoopP.unroll (md := md0) ?_
  refine BCase.yes rfl ?_
  refine gdP rfl ?_
  refine e2.here rfl [_] rfl ?_
  refine LoopP.unroll (md := md0) ?_
  refine BCase.yes rfl ?_
  refine gdP rfl ?_
  refine e3.here rfl [_] rfl ?_
  refine LoopP.unroll (md := md0) ?_
  refine BCase.yes rfl ?_
  refine gdP rfl ?_
  refine e4.here rfl [_] rfl ?_
  refine LoopP.unroll (md := md0) ?_
  refine BCase.yes rfl ?_
  refine gdP rfl ?_
  refine e5.here rfl [_] rfl ?_
  refine LoopP.unroll (md := md0) ?_
  refine BCase.no rfl ?_
  exact ⟨rfl, Nat.le_of_ble_eq_true rfl, .inl rfl, .inl rfl, .inl rfl, .inl rfl, .inl rfl, .inl rfl, .inl rfl, trivial⟩
def putR (p : Pg) (r w e : Int) : Pg :=
  let q := setG p (atG (shG p) p.c.row p.c.col fun x => rputI x p.c.col ⟨r, 0, 0, 0, p.at_, e⟩ (decide (w > 1)))
  { q with c := withinS q.a ⟨q.c.row, min (q.c.col + w) (q.a.cols - 1), decide (q.c.col + w > q.a.cols - 1), q.c.lab⟩ }
theorem nPut (p : Pg) (h : PgF (fun _ => True) p) (r w e : Int) (hw : 1 ≤ w) (hw2 : w ≤ 2) : Eff Tryz.prog 61 [penV 0 e, .int .i32 r, .int .i64 w] (pgB p) (pgB (putR p r w e)) (.tup []) := by
  have hok := pgB_ok p h.ok
  have hpu := pPut p h.ok h.sh.ok p.c.row p.c.col ⟨r, 0, 0, 0, p.at_, e⟩ (decide (w > 1))
  unfold putR
  have hF := h.setG (h.sh.at p.c.row p.c.col (F := fun x => rputI x p.c.col ⟨r, 0, 0, 0, p.at_, e⟩ (decide (w > 1))) (fun r => rputI_len _ _ _ _) fun _ _ _ => trivial)
  simp only
  generalize (setG p (atG (shG p) p.c.row p.c.col fun x => rputI x p.c.col ⟨r, 0, 0, 0, p.at_, e⟩ (decide (w > 1)))) = q at hpu hF ⊢
  have hq := pPlace q hF.ok hF.a ⟨q.c.row, min (q.c.col + w) (q.a.cols - 1), decide (q.c.col + w > q.a.cols - 1), q.c.lab⟩
  have b1 : 0 ≤ q.c.col := hF.c.c1
  have b2 : q.c.col < q.a.cols := hF.c.c2
  have b3 := hF.a.c1
  have b4 := hF.a.c2
  have e1 : IntKind.i64.wrap (q.c.col + w) = q.c.col + w := wri (by omega) (by omega)
  have e2 : IntKind.i64.wrap (q.a.cols - 1) = q.a.cols - 1 := wri (by omega) (by omega)
  have e3 : (if q.a.cols - 1 < q.c.col + w then q.a.cols - 1 else q.c.col + w) = min (q.c.col + w) (q.a.cols - 1) := by split <;> omega
  rw [← e3, ← e1, ← e2] at hq ⊢
  refine Eff.of rfl rfl hok (pgB_ok _ ⟨hF.ok.r⟩) (Nat.le_refl _) (Sem.of_body tysOk md0 Tryz.func61 rfl rfl ?_)
  refine DrawP.intro tysOk mixed false ?_
  refine ⟨_, (nAt p h.ok e).hereR [0, 1, 2, 3, 4, 5, 6] [_] 8 rfl rfl rfl, ?_⟩
  refine ⟨_, (pAttr p h.ok).hereR [0, 1, 2, 3, 4, 5, 6] [_] 8 rfl rfl rfl, ?_⟩
  obtain ⟨a, c, g0, g1, ⟨lines, first, most, lab, ver, ge, gs, gh⟩, room, t, m, at_, last, known⟩ := q
  cases lines
  all_goals
    refine ⟨_, hpu.hereT rfl [0, 1, 2, 3, 4, 5, 6] [_] 8 rfl rfl rfl, ?_⟩
    refine ⟨by kernel_rfl, ?_⟩
    refine DrawP.intro tysOk mixed false ?_
    refine ⟨_, (pCursor _ hF.ok).hereR [0, 1, 2, 3, 4, 5, 6] [_] 8 rfl rfl rfl, ?_⟩
    refine ⟨_, (pArea _ hF.ok).hereR [0, 1, 2, 3, 4, 5, 6] [_] 8 rfl rfl rfl, ?_⟩
    refine ⟨by kernel_rfl, ?_⟩
    refine hq.here rfl [_, _] rfl ?_
    exact ⟨rfl, Nat.le_of_ble_eq_true rfl, .inl rfl, .inl rfl, .inl rfl, .inl rfl, .inl rfl, .inl rfl, .inl rfl, trivial⟩
end Go.Cx
namespace Go.Cx
open Go.Proofs Go.Row
set_option maxRecDepth 100000
set_option maxHeartbeats 8000000
/-! ### Widths of runes -/
def spV (l : List (Int × Int)) : List (List V) := l.map fun s => [.int .i32 s.1, .int .i32 s.2]
def markT : List (Int × Int) := [(768, 879), (1155, 1161), (1425, 1469), (1471, 1471), (1473, 1474), (1476, 1477), (1479, 1479), (1552, 1562), (1611, 1631), (1648, 1648), (1750, 1756), (1759, 1764), (1767, 1768), (1770, 1773), (1809, 1809), (1840, 1866), (1958, 1968), (3633, 3633), (3636, 3642), (3655, 3662), (6832, 6862), (7616, 7679), (8203, 8207), (8234, 8238), (8288, 8292), (8400, 8432), (12330, 12333), (12441, 12442), (65024, 65039), (65056, 65071), (65279, 65279), (917760, 917999)]
def wideT : List (Int × Int) := [(4352, 4447), (9001, 9002), (11904, 12350), (12353, 19903), (19968, 42182), (44032, 55203), (63744, 64255), (65040, 65049), (65072, 65135), (65281, 65376), (65504, 65510), (127744, 128591), (129280, 129535), (131072, 196605), (196608, 262141)]
def hidT : List (Int × Int) := [(-2147483648, 31), (127, 159), (55296, 57343), (1114112, 2147483647)]
theorem wMarks : Fn Tryz.prog 132 [] (.psl 2 (spV markT) .exact) := Fn.of_val fOk (noNE_ok _) tysOk mixed (fun _ _ => false) 1000 14 rfl rfl (by kernel_rfl)
theorem wWides : Fn Tryz.prog 133 [] (.psl 2 (spV wideT) .exact) := Fn.of_val fOk (noNE_ok _) tysOk mixed (fun _ _ => false) 1000 14 rfl rfl (by kernel_rfl)
theorem wHidden : Fn Tryz.prog 94 [] (.psl 2 (spV hidT) .exact) := Fn.of_val fOk (noNE_ok _) tysOk mixed (fun _ _ => false) 1000 14 rfl rfl (by kernel_rfl)
theorem wCmp (s : Int × Int) (r : Int) : Fn Tryz.prog 131 [.agg [.int .i32 s.1, .int .i32 s.2], .int .i32 r] (.int .i64 (if s.2 < r then -1 else if s.1 > r then 1 else 0)) := by
  refine Fn.of_body tysOk md0 Tryz.func131 rfl rfl rfl rfl ?_
  refine ⟨fun h => ?_, fun h => ?_⟩
  · have h : s.2 < r := of_decide_eq_true h
    rw [if_pos h]; rfl
  · have h : ¬ s.2 < r := of_decide_eq_false h
    rw [if_neg h]
    refine ⟨fun h => ?_, fun h => ?_⟩
    · have h : s.1 > r := of_decide_eq_true h
      rw [if_pos h]; rfl
    · have h : ¬ s.1 > r := of_decide_eq_false h
      rw [if_neg h]; rfl
def lowB (l : List (Int × Int)) (r : Int) : Nat := (l.takeWhile fun s => decide (s.2 < r)).length
def hitS (l : List (Int × Int)) (r : Int) : Bool := l.any fun s => decide (s.1 ≤ r ∧ r ≤ s.2)
/-- Spans that rise. -/
def rises : List (Int × Int) → Bool
  | [] => true
  | [_] => true
  | a :: b :: l => decide (a.1 ≤ a.2) && decide (a.2 < b.1) && decide (b.1 ≤ b.2) && rises (b :: l)
theorem rises_tail {a : Int × Int} {l : List (Int × Int)} (h : rises (a :: l) = true) : rises l = true := by
  cases l with
  | nil => rfl
  | cons b l => simp only [rises, Bool.and_eq_true] at h; exact h.2
theorem rises_lt {a : Int × Int} {l : List (Int × Int)} (h : rises (a :: l) = true) : ∀ b ∈ l, a.2 < b.1 ∧ b.1 ≤ b.2 := by
  induction l generalizing a with
  | nil => intro b hb; cases hb
  | cons c l ih =>
    intro b hb
    have h0 := h
    simp only [rises, Bool.and_eq_true, decide_eq_true_eq] at h
    rcases List.mem_cons.1 hb with rfl | hb
    · exact ⟨h.1.1.2, h.1.2⟩
    · have := ih (rises_tail h0) b hb
      exact ⟨by omega, this.2⟩
theorem lowB_lt {l : List (Int × Int)} {r : Int} {k : Nat} {s : Int × Int} (hk : k < lowB l r) (hs : l[k]? = some s) : s.2 < r := by
  induction l generalizing k with
  | nil => simp at hs
  | cons a l ih =>
    unfold lowB at hk ih
    rw [List.takeWhile_cons] at hk
    split at hk
    · rename_i ha
      cases k with
      | zero => simp only [List.getElem?_cons_zero, Option.some.injEq] at hs; subst hs; exact of_decide_eq_true ha
      | succ k => exact ih (by simpa using hk) (by simpa using hs)
    · simp at hk
theorem lowB_ge {l : List (Int × Int)} (hr : rises l = true) {r : Int} {k : Nat} {s : Int × Int} (hk : lowB l r ≤ k) (hs : l[k]? = some s) : ¬ s.2 < r := by
  induction l generalizing k with
  | nil => simp at hs
  | cons a l ih =>
    have h1 := rises_lt hr
    unfold lowB at hk ih
    rw [List.takeWhile_cons] at hk
    split at hk
    · rename_i ha
      cases k with
      | zero => simp at hk
      | succ k => exact ih (rises_tail hr) (by simpa using hk) (by simpa using hs)
    · rename_i ha
      have ha : ¬ a.2 < r := fun e => ha (decide_eq_true e)
      cases k with
      | zero => simp only [List.getElem?_cons_zero, Option.some.injEq] at hs; subst hs; exact ha
      | succ k =>
        have := h1 s (List.mem_of_getElem? (by simpa using hs))
        omega
theorem lowB_le (l : List (Int × Int)) (r : Int) : lowB l r ≤ l.length := by unfold lowB; exact (List.takeWhile_sublist _).length_le
theorem lowB_hit {l : List (Int × Int)} (hr : rises l = true) (r : Int) : hitS l r = (match l[lowB l r]? with | some s => decide (s.1 ≤ r) | none => false) := by
  cases hs : l[lowB l r]? with
  | none =>
    show hitS l r = false
    unfold hitS
    rw [List.any_eq_false]
    intro s hm
    obtain ⟨k, hk, he⟩ := List.getElem_of_mem hm
    have h1 : l.length ≤ lowB l r := List.getElem?_eq_none_iff.1 hs
    have := lowB_lt (l := l) (r := r) (k := k) (s := s) (by omega) (by rw [List.getElem?_eq_getElem hk, he])
    simp only [decide_eq_true_eq]
    omega
  | some s =>
    have hge := lowB_ge hr (Nat.le_refl _) hs
    show hitS l r = decide (s.1 ≤ r)
    unfold hitS
    by_cases h1 : s.1 ≤ r
    · rw [decide_eq_true h1, List.any_eq_true]
      exact ⟨s, List.mem_of_getElem? hs, decide_eq_true ⟨h1, by omega⟩⟩
    · rw [decide_eq_false h1, List.any_eq_false]
      intro x hm
      obtain ⟨k, hk, he⟩ := List.getElem_of_mem hm
      have hx : l[k]? = some x := by rw [List.getElem?_eq_getElem hk, he]
      simp only [decide_eq_true_eq]
      rintro ⟨h2, h3⟩
      rcases Nat.lt_trichotomy k (lowB l r) with h4 | h4 | h4
      · have := lowB_lt h4 hx; omega
      · subst h4; rw [hs] at hx; simp only [Option.some.injEq] at hx; subst hx; exact h1 h2
      · have hd : l.drop (lowB l r) = s :: l.drop (lowB l r + 1) := by
          obtain ⟨q1, q2⟩ := List.getElem?_eq_some_iff.1 hs
          rw [List.drop_eq_getElem_cons q1, q2]
        have hrd : ∀ n (l : List (Int × Int)), rises l = true → rises (l.drop n) = true := by
          intro n
          induction n with
          | zero => intro l h; exact h
          | succ n ih =>
            intro l h
            cases l with
            | nil => rfl
            | cons a l => exact ih l (rises_tail h)
        have hr2 := hrd (lowB l r) l hr
        rw [hd] at hr2
        have hxm : x ∈ l.drop (lowB l r + 1) := by
          refine List.mem_of_getElem? (i := k - (lowB l r + 1)) ?_
          rw [List.getElem?_drop, show lowB l r + 1 + (k - (lowB l r + 1)) = k by omega, hx]
        have := rises_lt hr2 x hxm
        omega
theorem spV_get {l : List (Int × Int)} {i : Nat} {s : Int × Int} (h : l[i]? = some s) : (spV l)[i]? = some [.int .i32 s.1, .int .i32 s.2] := by simp [spV, h]
def cmpF : V := .fn (.func 131) [] []
def envBs (l : List (Int × Int)) (r : Int) (i j : Nat) : List V := [.psl 2 (spV l) .exact, .int .i32 r, cmpF, .undef, .undef, .undef, .int .i64 0, .bool false, .int .i64 l.length, .int .i64 i, .int .i64 j] ++ List.replicate 38 .undef
theorem half_eq (i j : Nat) (hi : i < 1000) (hj : j < 1000) : IntKind.i64.wrap ((IntKind.u64.wrap (IntKind.i64.wrap ((i : Int) + (j : Int)))).fdiv (2 ^ (min (1 : Int).toNat IntKind.u64.bits))) = (((i + j) / 2 : Nat) : Int) := by
  have e1 : IntKind.i64.wrap ((i : Int) + (j : Int)) = ((i + j : Nat) : Int) := wrs i j (by omega)
  have e2 : IntKind.u64.wrap ((i + j : Nat) : Int) = ((i + j : Nat) : Int) := wru (by omega) (by omega)
  have e3 : ((i + j : Nat) : Int).fdiv 2 = (((i + j) / 2 : Nat) : Int) := by
    rw [Int.fdiv_eq_ediv_of_nonneg _ (by omega)]; omega
  rw [e1, e2]
  show IntKind.i64.wrap (((i + j : Nat) : Int).fdiv 2) = _
  rw [e3, wri (by omega) (by omega)]
theorem wSearch (l : List (Int × Int)) (hr : rises l = true) (hl : l.length < 1000) (r : Int) : Fn Tryz.prog 130 [.psl 2 (spV l) .exact, .int .i32 r, cmpF] (.tup [.int .i64 (lowB l r), .bool (hitS l r)]) := by
  have hsl : (spV l).length = l.length := by simp [spV]
  have hle := lowB_le l r
  refine Fn.of_body tysOk md0 Tryz.func130 rfl rfl rfl rfl ?_
  refine LoopP.inv (md := md0) (fun k env h => ∃ (i j : Nat), k = j - i ∧ i ≤ lowB l r ∧ lowB l r ≤ j ∧ j ≤ l.length ∧ env = envBs l r i j ∧ h = []) l.length ⟨envBs l r 0 l.length, _, .same ?_ rfl, 0, l.length, rfl, Nat.zero_le _, hle, Nat.le_refl _, rfl, rfl⟩ ?_
  · rw [← hsl]; unfold envBs; rw [← hsl]; repeat (first | exact trivial | refine ⟨.inl rfl, ?_⟩ | refine ⟨.inr rfl, ?_⟩)
  rintro k _ _ ⟨i, j, rfl, hi, hj, hjl, rfl, rfl⟩
  refine ⟨fun h => ?_, fun h => ?_⟩
  · have hij : i < j := by have := of_decide_eq_true h; omega
    have hh := half_eq i j (by omega) (by omega)
    obtain ⟨m, hm⟩ : ∃ m, m = (i + j) / 2 := ⟨_, rfl⟩
    rw [← hm] at hh
    have hm1 : i ≤ m := by omega
    have hm2 : m < j := by omega
    obtain ⟨s, hs⟩ : ∃ s, l[m]? = some s := ⟨_, List.getElem?_eq_getElem (by omega)⟩
    refine ⟨_, ⟨by rw [hh]; omega, by rw [hh, Int.toNat_natCast]; exact spV_get hs⟩, gdP rfl ?_⟩
    refine (wCmp s r).sem _ ?_
    refine ⟨fun hc => ?_, fun hc => ?_⟩
    · have hc : s.2 < r := by
        have hc : (if s.2 < r then (-1 : Int) else if s.1 > r then 1 else 0) < 0 := of_decide_eq_true hc
        split at hc
        · assumption
        · split at hc <;> omega
      have hlo : m < lowB l r := Nat.lt_of_not_ge fun e => lowB_ge hr e hs hc
      refine ⟨j - (m + 1), envBs l r (m + 1 : Nat) j, _, by omega, .same ?_ rfl, m + 1, j, rfl, by omega, hj, hjl, rfl, rfl⟩
      repeat (first | exact trivial | refine ⟨.inl rfl, ?_⟩ | refine ⟨.inl (congrArg (V.int .i64) (by rw [hh]; exact (wrs m 1 (by omega)).symm)), ?_⟩ | refine ⟨.inr rfl, ?_⟩)
    · have hc : ¬ s.2 < r := by
        have hc : ¬ (if s.2 < r then (-1 : Int) else if s.1 > r then 1 else 0) < 0 := of_decide_eq_false hc
        intro e
        rw [if_pos e] at hc
        omega
      have hlo : lowB l r ≤ m := Nat.le_of_not_gt fun e => hc (lowB_lt e hs)
      refine ⟨m - i, envBs l r i m, _, by omega, .same ?_ rfl, i, m, rfl, hi, hlo, by omega, rfl, rfl⟩
      repeat (first | exact trivial | refine ⟨.inl rfl, ?_⟩ | refine ⟨.inl (congrArg (V.int .i64) hh.symm), ?_⟩ | refine ⟨.inr rfl, ?_⟩)
  · have hij : i = j := by have := of_decide_eq_false h; omega
    have hi2 : i = lowB l r := by omega
    subst hij
    have hb := lowB_hit hr r
    rw [← hi2] at hb ⊢
    rw [hb]
    refine ⟨fun h2 => ?_, fun h2 => ?_⟩
    · have h2 : decide ((i : Int) < (l.length : Nat)) = true := h2
      have hil : i < l.length := by have := of_decide_eq_true h2; omega
      obtain ⟨s, hs⟩ : ∃ s, l[i]? = some s := ⟨_, List.getElem?_eq_getElem hil⟩
      have hge := lowB_ge hr (Nat.le_of_eq hi2.symm) hs
      rw [hs]
      repeat (first | refine BCase.yes rfl ?_ | refine BCase.no rfl ?_)
      refine ⟨_, ⟨by omega, by rw [Int.toNat_natCast]; exact spV_get hs⟩, gdP rfl ?_⟩
      repeat (first | refine BCase.yes rfl ?_ | refine BCase.no rfl ?_)
      refine (wCmp s r).sem _ ?_
      repeat (first | refine BCase.yes rfl ?_ | refine BCase.no rfl ?_)
      show V.tup [.int .i64 i, .bool ((if s.2 < r then (-1 : Int) else if s.1 > r then 1 else 0) == 0)] = V.tup [.int .i64 i, .bool (decide (s.1 ≤ r))]
      rw [if_neg hge]
      by_cases h3 : s.1 > r
      · rw [if_pos h3, decide_eq_false (by omega)]; rfl
      · rw [if_neg h3, decide_eq_true (by omega)]; rfl
    · have h2 : decide ((i : Int) < (l.length : Nat)) = false := h2
      have hil : l.length ≤ i := by have := of_decide_eq_false h2; omega
      rw [List.getElem?_eq_none hil]
      repeat (first | refine BCase.yes rfl ?_ | refine BCase.no rfl ?_)
      rfl
theorem wWithin (l : List (Int × Int)) (hr : rises l = true) (hl : l.length < 1000) (r : Int) : Fn Tryz.prog 93 [.int .i32 r, .psl 2 (spV l) .exact] (.bool (hitS l r)) := by
  refine Fn.of_body tysOk md0 Tryz.func93 rfl rfl rfl rfl ?_
  refine (wSearch l hr hl r).sem _ ?_
  rfl
def markB (r : Int) : Bool := hitS markT r
def wideB (r : Int) : Bool := hitS wideT r
def hidB (r : Int) : Bool := hitS hidT r
/-- How many columns a rune takes. -/
def wOf (r : Int) : Int := if hidB r then -1 else if markB r then 0 else if wideB r then 2 else 1
theorem wMark (r : Int) : Fn Tryz.prog 95 [.int .i32 r] (.bool (markB r)) := by
  refine Fn.of_body tysOk md0 Tryz.func95 rfl rfl rfl rfl ?_
  refine wMarks.sem _ ?_
  refine (wWithin markT (by decide) (by decide) r).sem _ ?_
  rfl
theorem wWide (r : Int) : Fn Tryz.prog 96 [.int .i32 r] (.bool (wideB r && !markB r)) := by
  refine Fn.of_body tysOk md0 Tryz.func96 rfl rfl rfl rfl ?_
  refine wWides.sem _ ?_
  refine (wWithin wideT (by decide) (by decide) r).sem _ ?_
  change BCase (wideB r) _ _
  cases hw : wideB r with
  | true =>
    refine BCase.yes rfl ?_
    repeat (first | refine BCase.yes rfl ?_ | refine BCase.no rfl ?_)
    refine (wMark r).sem _ ?_
    repeat (first | refine BCase.yes rfl ?_ | refine BCase.no rfl ?_)
    rfl
  | false =>
    refine BCase.no rfl ?_
    repeat (first | refine BCase.yes rfl ?_ | refine BCase.no rfl ?_)
    rfl
theorem wOfF (r : Int) : Fn Tryz.prog 57 [.int .i32 r] (.int .i64 (wOf r)) := by
  unfold wOf
  refine Fn.of_body tysOk md0 Tryz.func57 rfl rfl rfl rfl ?_
  refine wHidden.sem _ ?_
  refine (wWithin hidT (by decide) (by decide) r).sem _ ?_
  change BCase (hidB r) _ _
  cases hh : hidB r with
  | true => exact BCase.yes rfl rfl
  | false =>
    refine BCase.no rfl ?_
    refine (wMark r).sem _ ?_
    cases hm : markB r with
    | true => exact BCase.yes rfl rfl
    | false =>
      refine BCase.no rfl ?_
      have := wWide r
      rw [hm] at this
      refine this.sem _ ?_
      cases hw : wideB r with
      | true => exact BCase.yes rfl rfl
      | false => exact BCase.no rfl rfl
theorem wOf_cases (r : Int) : wOf r = -1 ∨ wOf r = 0 ∨ wOf r = 1 ∨ wOf r = 2 := by
  unfold wOf
  cases hidB r <;> cases markB r <;> cases wideB r <;> simp
theorem wOf_shown {r : Int} (h0 : -2147483648 ≤ r) (h : 0 ≤ wOf r) : 32 ≤ r := by
  unfold wOf at h
  cases hh : hidB r with
  | true => rw [hh] at h; simp at h
  | false =>
    unfold hidB hitS hidT at hh
    simp only [List.any_cons, List.any_nil, Bool.or_false, Bool.or_eq_false_iff, decide_eq_false_iff_not] at hh
    omega
end Go.Cx
namespace Go.Cx
open Go.Proofs Go.Row
set_option maxRecDepth 100000
set_option maxHeartbeats 8000000
/-! ### A rune is printed -/
theorem PgI.touch {Q : List Cl → Prop} {p : Pg} (h : PgI Q p) (l : Int) (hq : ∀ r e, Q r → Q (raiseR r e)) : PgI Q (touchS p l) := by
  unfold touchS
  split
  · exact h
  · rename_i hf
    have hb : p.a.base ≤ 0 := by
      have h1 := h.a.l1
      have h2 := h.a.l2
      refine Int.not_lt.1 fun h0 => hf ?_
      unfold flowsB
      rw [if_pos h0]
      exact decide_eq_true (by unfold join2; rw [if_pos (.inr h0)])
    have hg := h.setG (h.sh.map (F := fun r => raiseR r (join2 p.c.lab l)) (fun r => raiseR_len _ _) fun r hr => hq _ _ hr)
    have j := join2_01 p.c.lab (join2 p.c.lab l)
    have hc : (labS p.c (join2 p.c.lab (join2 p.c.lab l))).inn p.a := ⟨h.c.r1, h.c.r2, h.c.c1, h.c.c2, by show p.a.base ≤ join2 _ _; omega, j.2, h.c.w⟩
    refine ⟨⟨rgRaised_ok h.ok.r _⟩, hg.a, hg.t, ?_, hg.g0, hg.g1⟩
    rw [setG_a]; exact hc
theorem touchS_a (p : Pg) (l : Int) : (touchS p l).a = p.a := by
  unfold touchS; split
  · rfl
  · exact setG_a _ _
def penR (p : Pg) (r w : Int) : Int × Int := if w > p.a.cols then (65533, 1) else (r, w)
def runeS (p : Pg) (r by_ : Int) : Pg :=
  if wOf r < 0 then p
  else
    let e := join2 p.c.lab by_
    let p1 := touchS p by_
    if wOf r = 0 then markS p1 r e
    else
      let rw := penR p1 r (wOf r)
      let p3 := putR (readyS p1 rw.2 e) rw.1 rw.2 e
      { p3 with last := rw.1, known := join2 by_ p3.a.base }
theorem PgF.putR {Q : List Cl → Prop} {p : Pg} (h : PgF Q p) (r w e : Int) (hq : ∀ x, x.length = (shG p).cols → Q x → Q (rputI x p.c.col ⟨r, 0, 0, 0, p.at_, e⟩ (decide (w > 1)))) : PgI Q (putR p r w e) := by
  unfold Cx.putR
  have hF := h.setG (h.sh.at p.c.row p.c.col (F := fun x => rputI x p.c.col ⟨r, 0, 0, 0, p.at_, e⟩ (decide (w > 1))) (fun r => rputI_len _ _ _ _) hq)
  refine hF.cur (withinS_inn hF.a fun hw => ?_)
  have hw := of_decide_eq_true hw
  show min _ _ = _
  omega
theorem PgI.mark {Q : List Cl → Prop} {p : Pg} (h : PgI Q p) (r e : Int) (hq : ∀ x j, Q x → Q (rmark x j r e)) : PgI Q (markS p r e) := by
  unfold markS
  exact h.setG (h.sh.at _ _ (fun r => rmark_len _ _ _ _) fun _ _ h => hq _ _ h)
theorem rune_tail (p1 : Pg) (h1 : p1.good) (r w e by_ : Int) (hw : 1 ≤ w) (hw2 : w ≤ 2) : (let p3 := putR (readyS p1 w e) r w e; ({ p3 with last := r, known := join2 by_ p3.a.base } : Pg)).ok :=
  ⟨((PgI_true h1 w e).putR r w e fun _ _ _ => trivial).ok.r⟩
theorem PgI_rune {p : Pg} (h : p.good) (r by_ : Int) : (runeS p r by_).good := by
  unfold runeS
  have ht := h.inv.touch by_ fun _ _ _ => trivial
  split
  · exact h
  · simp only
    split
    · exact (ht.mark _ _ fun _ _ _ => trivial).good
    · have hp := (PgI_true ht.good (penR (touchS p by_) r (wOf r)).2 (join2 p.c.lab by_)).putR (penR (touchS p by_) r (wOf r)).1 (penR (touchS p by_) r (wOf r)).2 (join2 p.c.lab by_) fun _ _ _ => trivial
      exact (PgI.good ⟨⟨hp.ok.r⟩, hp.a, hp.t, hp.c, hp.g0, hp.g1⟩)
theorem pRune (p : Pg) (h : p.good) (r by_ : Int) : Eff Tryz.prog 26 [.ptr 0 0, .int .i32 r, .int .u8 by_] (pgB p) (pgB (runeS p r by_)) (.bool (decide (0 ≤ wOf r))) := by
  have hok := pgB_ok p h.ok
  refine Eff.of rfl rfl hok (pgB_ok _ (PgI_rune h r by_).ok) (Nat.le_refl _) (Sem.of_body tysOk md0 Tryz.func26 rfl rfl ?_)
  refine (wOfF r).sem _ ?_
  refine BCase.no rfl ?_
  repeat (first | refine BCase.yes rfl ?_ | refine BCase.no rfl ?_)
  unfold runeS
  refine ⟨fun h0 => ?_, fun h0 => ?_⟩
  · have h0 : wOf r < 0 := of_decide_eq_true h0
    have hd0 : decide (0 ≤ wOf r) = false := decide_eq_false (by omega)
    rw [if_pos h0, hd0]
    repeat (first | refine BCase.yes rfl ?_ | refine BCase.no rfl ?_)
    exact ⟨rfl, Nat.le_of_ble_eq_true rfl, .inl rfl, .inl rfl, .inl rfl, .inl rfl, .inl rfl, .inl rfl, .inl rfl, trivial⟩
  · have h0 : ¬ wOf r < 0 := of_decide_eq_false h0
    have hd0 : decide (0 ≤ wOf r) = true := decide_eq_true (by omega)
    rw [if_neg h0, hd0]
    have ht := pTouch p h.ok h.sh by_
    have hg := (h.inv.touch by_ fun _ _ _ => trivial).good
    simp only
    generalize touchS p by_ = p1 at ht hg ⊢
    generalize join2 p.c.lab by_ = e at ht ⊢
    repeat (first | refine BCase.yes rfl ?_ | refine BCase.no rfl ?_)
    refine ht.here rfl [] rfl ?_
    refine ⟨fun h1 => ?_, fun h1 => ?_⟩
    · have h1 : wOf r = 0 := by have h1 : (wOf r == 0) = true := h1; exact eq_of_beq h1
      rw [if_pos h1]
      refine (nMark p1 hg r e).here (by unfold markS setG; split <;> rfl) [_] rfl ?_
      exact ⟨rfl, Nat.le_of_ble_eq_true rfl, .inl rfl, .inl rfl, .inl rfl, .inl rfl, .inl rfl, .inl rfl, .inl rfl, trivial⟩
    · have h1 : ¬ wOf r = 0 := by have h1 : (wOf r == 0) = false := h1; exact fun e => by rw [e] at h1; cases h1
      rw [if_neg h1]
      have hc := wOf_cases r
      refine (pArea p1 hg.ok).here rfl [_] rfl ?_
      unfold penR
      have tail : ∀ (r w : Int), 1 ≤ w → w ≤ 2 → Eff Tryz.prog 61 [penV 0 e, .int .i32 r, .int .i64 w] (pgB (readyS p1 w e)) (pgB (putR (readyS p1 w e) r w e)) (.tup []) ∧
          Eff Tryz.prog 62 [.ptr 0 0, .int .i32 r, .int .u8 by_] (pgB (putR (readyS p1 w e) r w e)) (pgB { putR (readyS p1 w e) r w e with last := r, known := join2 by_ (putR (readyS p1 w e) r w e).a.base }) (.tup []) := fun r w a b =>
        ⟨nPut _ (PgI_true hg w e) r w e a b, pSetLast _ ((PgI_true hg w e).putR r w e fun _ _ _ => trivial).ok r by_⟩
      refine ⟨fun h2 => ?_, fun h2 => ?_⟩
      · have h2 : wOf r > p1.a.cols := of_decide_eq_true h2
        rw [if_pos h2]
        obtain ⟨t1, t2⟩ := tail 65533 1 (by omega) (by omega)
        refine (nReady p1 hg 1 e).here rfl [_] rfl ?_
        refine t1.here rfl [_] rfl ?_
        refine t2.here rfl [_] rfl ?_
        exact ⟨rfl, Nat.le_of_ble_eq_true rfl, .inl rfl, .inl rfl, .inl rfl, .inl rfl, .inl rfl, .inl rfl, .inl rfl, trivial⟩
      · have h2 : ¬ wOf r > p1.a.cols := of_decide_eq_false h2
        rw [if_neg h2]
        obtain ⟨t1, t2⟩ := tail r (wOf r) (by omega) (by omega)
        refine (nReady p1 hg (wOf r) e).here rfl [_] rfl ?_
        refine t1.here rfl [_] rfl ?_
        refine t2.here rfl [_] rfl ?_
        exact ⟨rfl, Nat.le_of_ble_eq_true rfl, .inl rfl, .inl rfl, .inl rfl, .inl rfl, .inl rfl, .inl rfl, .inl rfl, trivial⟩
end Go.Cx
namespace Go.Cx
open Go.Proofs Go.Row
set_option maxRecDepth 100000
set_option maxHeartbeats 8000000
/-! ### Runes of bytes -/
structure Dc where
  code : Int
  left : Int
  got : Int
  lo : Int
  hi : Int
  deriving DecidableEq
def Dc.cs (d : Dc) : List V := [.int .i32 d.code, .int .u8 d.left, .int .u8 d.got, .int .u8 d.lo, .int .u8 d.hi]
def Dc.v (d : Dc) : V := .agg d.cs
def dc0 : Dc := ⟨0, 0, 0, 0, 0⟩
def spanV (s : Int × Int) : V := .agg [.int .u8 s.1, .int .u8 s.2]
def secondS (b : Int) : Int × Int := if b = 224 then (160, 191) else if b = 237 then (128, 159) else if b = 240 then (144, 191) else if b = 244 then (128, 143) else (128, 191)
theorem uAny : Fn Tryz.prog 152 [] (spanV (128, 191)) := by
  refine Fn.of_body tysOk md0 Tryz.func152 rfl rfl rfl rfl ?_
  rfl
theorem uSecond (b : Int) : Fn Tryz.prog 170 [.int .u8 b] (spanV (secondS b)) := by
  unfold secondS
  refine Fn.of_body tysOk md0 Tryz.func170 rfl rfl rfl rfl ?_
  refine LoopP.unroll (md := md0) ?_
  refine BCase.yes rfl ?_
  refine gdP rfl ?_
  refine ⟨fun h => ?_, fun h => ?_⟩
  · have h : ((224 : Int) == b) = true := h
    have h : b = 224 := (eq_of_beq h).symm
    rw [if_pos h]; rfl
  have h1 : ¬ b = 224 := by have h : ((224 : Int) == b) = false := h; exact fun e => by subst e; cases h
  rw [if_neg h1]
  refine LoopP.unroll (md := md0) ?_
  refine BCase.yes rfl ?_
  refine gdP rfl ?_
  refine ⟨fun h => ?_, fun h => ?_⟩
  · have h : ((237 : Int) == b) = true := h
    have h : b = 237 := (eq_of_beq h).symm
    rw [if_pos h]; rfl
  have h2 : ¬ b = 237 := by have h : ((237 : Int) == b) = false := h; exact fun e => by subst e; cases h
  rw [if_neg h2]
  refine LoopP.unroll (md := md0) ?_
  refine BCase.yes rfl ?_
  refine gdP rfl ?_
  refine ⟨fun h => ?_, fun h => ?_⟩
  · have h : ((240 : Int) == b) = true := h
    have h : b = 240 := (eq_of_beq h).symm
    rw [if_pos h]; rfl
  have h3 : ¬ b = 240 := by have h : ((240 : Int) == b) = false := h; exact fun e => by subst e; cases h
  rw [if_neg h3]
  refine LoopP.unroll (md := md0) ?_
  refine BCase.yes rfl ?_
  refine gdP rfl ?_
  refine ⟨fun h => ?_, fun h => ?_⟩
  · have h : ((244 : Int) == b) = true := h
    have h : b = 244 := (eq_of_beq h).symm
    rw [if_pos h]; rfl
  have h4 : ¬ b = 244 := by have h : ((244 : Int) == b) = false := h; exact fun e => by subst e; cases h
  rw [if_neg h4]
  refine LoopP.unroll (md := md0) ?_
  refine BCase.no rfl ?_
  refine uAny.sem _ ?_
  rfl
def bits8 (b k : Int) : Int := IntKind.i32.wrap (IntKind.u8.wrap ((BitVec.ofInt IntKind.u8.bits b &&& BitVec.ofInt IntKind.u8.bits k).toNat : Int))
def runV (l : List Int) : List (List V) := l.map fun r => [.int .i32 r]
def someV (l : List Int) : V := match l with | [] => .nils | _ :: _ => .psl 1 (runV l) .any
def beginS (b : Int) : Dc × List Int :=
  if b < 128 then (dc0, [IntKind.i32.wrap b])
  else if b < 194 ∨ b > 244 then (dc0, [65533])
  else if b < 224 then (⟨bits8 b 31, 1, 1, (secondS b).1, (secondS b).2⟩, [])
  else if b < 240 then (⟨bits8 b 15, 2, 1, (secondS b).1, (secondS b).2⟩, [])
  else (⟨bits8 b 7, 3, 1, (secondS b).1, (secondS b).2⟩, [])
def exV (l : List Int) : V := match l with | [] => .nils | _ :: _ => .psl 1 (runV l) .exact
theorem uBegin (b : Int) : Fn Tryz.prog 151 [.int .u8 b] (.tup [(beginS b).1.v, exV (beginS b).2]) := by
  unfold beginS
  have hs := uSecond b
  generalize secondS b = s at hs ⊢
  obtain ⟨s1, s2⟩ := s
  refine ⟨rfl, ?_, ?_⟩
  · split
    · rfl
    · split
      · rfl
      · split
        · rfl
        · split <;> rfl
  refine Sem.of_body tysOk md0 Tryz.func151 rfl rfl ?_
  refine hs.sem _ ?_
  refine ⟨fun h => ?_, fun h => ?_⟩
  · have h : b < 128 := of_decide_eq_true h
    rw [if_pos h]; rfl
  have h1 : ¬ b < 128 := of_decide_eq_false h
  rw [if_neg h1]
  refine ⟨fun h => ?_, fun h => ?_⟩
  · have h : b < 194 := of_decide_eq_true h
    rw [if_pos (.inl h)]
    repeat (first | refine BCase.yes rfl ?_ | refine BCase.no rfl ?_)
    rfl
  have h2 : ¬ b < 194 := of_decide_eq_false h
  repeat (first | refine BCase.yes rfl ?_ | refine BCase.no rfl ?_)
  refine ⟨fun h => ?_, fun h => ?_⟩
  · have h : b > 244 := of_decide_eq_true h
    rw [if_pos (.inr h)]; rfl
  have h3 : ¬ b > 244 := of_decide_eq_false h
  rw [if_neg (fun e => e.elim h2 h3)]
  refine ⟨fun h => ?_, fun h => ?_⟩
  · have h : b < 224 := of_decide_eq_true h
    rw [if_pos h]; rfl
  have h4 : ¬ b < 224 := of_decide_eq_false h
  rw [if_neg h4]
  refine ⟨fun h => ?_, fun h => ?_⟩
  · have h : b < 240 := of_decide_eq_true h
    rw [if_pos h]; rfl
  have h5 : ¬ b < 240 := of_decide_eq_false h
  rw [if_neg h5]
  rfl
theorem uPending (d : Dc) : Fn Tryz.prog 153 [d.v] (.int .i64 (IntKind.i64.wrap d.got)) := by
  refine Fn.of_body tysOk md0 Tryz.func153 rfl rfl rfl rfl ?_
  rfl
def endS (d : Dc) : List Int := if IntKind.i64.wrap d.got = 0 then [] else [65533]
theorem uEnd (d : Dc) : Fn Tryz.prog 126 [d.v] (.tup [dc0.v, exV (endS d)]) := by
  unfold endS
  refine ⟨rfl, by split <;> rfl, ?_⟩
  refine Sem.of_body tysOk md0 Tryz.func126 rfl rfl ?_
  refine (uPending d).sem _ ?_
  refine ⟨fun h => ?_, fun h => ?_⟩
  · have h : (IntKind.i64.wrap d.got == 0) = true := h
    rw [if_pos (eq_of_beq h)]; rfl
  · have h : (IntKind.i64.wrap d.got == 0) = false := h
    rw [if_neg (fun e => by rw [e] at h; cases h)]; rfl
/-- What a pair hands out, less being said of it. -/
theorem Fn.tupT {P : Program} {g : FuncId} {args : List V} {vs ws : List V} (ha : allFree args = true) (hw : (V.tup ws).free = true) (hf : forgT vs ws) (k : Sem P g args [] fun v _ => v = .tup vs) : Fn P g args (.tup ws) := by
  refine ⟨ha, hw, ⟨fun φ μ B w cargs hB r ha => (k.run φ μ B w cargs hB r ha).mono fun _ _ ⟨v, h', φ', μ', cv, e1, hK, hv, rest⟩ => ⟨.tup ws, h', φ', μ', cv, e1, rfl, ?_, rest⟩⟩⟩
  subst hK
  obtain ⟨cs, rfl, h1⟩ := hv.tup_inv
  have h2 := forgT_ok (φ := φ') (μ := μ') vs ws hf
  refine .tup _ _ _ (h2.1.trans h1.1) fun j hj => h2.2 j _ (h1.2 j (by rw [← h2.1]; exact hj))
end Go.Cx
namespace Go.Cx
open Go.Proofs Go.Row
set_option maxRecDepth 100000
set_option maxHeartbeats 8000000
def codeS (d : Dc) (b : Int) : Int := IntKind.i32.wrap ((BitVec.ofInt IntKind.i32.bits (IntKind.i32.wrap (d.code * 2 ^ (min (6 : Int).toNat IntKind.i32.bits))) ||| BitVec.ofInt IntKind.i32.bits (bits8 b 63)).toNat : Int)
def moreS (d : Dc) (b : Int) : Dc := ⟨codeS d b, IntKind.u8.wrap (d.left - 1), IntKind.u8.wrap (d.got + 1), 128, 191⟩
def pushS (d : Dc) (b : Int) : Dc × List Int :=
  if d = dc0 then beginS b
  else if b < d.lo ∨ b > d.hi then ((beginS b).1, 65533 :: (beginS b).2)
  else if (moreS d b).left = 0 then (dc0, [codeS d b]) else (moreS d b, [])
theorem beginS_two (b : Int) : (beginS b).2 = [] ∨ ∃ r, (beginS b).2 = [r] := by
  unfold beginS
  split
  · exact .inr ⟨_, rfl⟩
  · split
    · exact .inr ⟨_, rfl⟩
    · left; split
      · rfl
      · split <;> rfl
def PushK (d : Dc) (b : Int) (v : V) : Prop := ∃ x, v = .tup [(pushS d b).1.v, x] ∧ forgT1 x (someV (pushS d b).2)
theorem forg_ex (l : List Int) : forgT1 (exV l) (someV l) := by
  cases l with
  | nil => exact .inl rfl
  | cons r l => exact .inr (.inr (.inl ⟨_, _, _, rfl, rfl⟩))
theorem uPush0 (d : Dc) (b : Int) : Sem Tryz.prog 125 [d.v, .int .u8 b] [] fun v _ => PushK d b v := by
  unfold PushK pushS
  obtain ⟨code, left, got, lo, hi⟩ := d
  refine Sem.of_body tysOk md0 Tryz.func125 rfl rfl ?_
  refine ⟨fun h => ?_, fun h => ?_⟩
  · have h : (code == 0 && (left == 0 && (got == 0 && ((lo == 0 && (hi == 0 && true)) && true)))) = true := h
    simp only [Bool.and_true, Bool.and_eq_true, beq_iff_eq] at h
    have he : (⟨code, left, got, lo, hi⟩ : Dc) = dc0 := by obtain ⟨rfl, rfl, rfl, rfl, rfl⟩ := h; rfl
    rw [if_pos he]
    refine (uBegin b).sem _ ?_
    rcases beginS_two b with h2 | ⟨r, h2⟩
    · rw [h2]
      exact ⟨_, rfl, .inl rfl⟩
    · rw [h2]
      exact ⟨_, rfl, .inr (.inr (.inl ⟨_, _, _, rfl, rfl⟩))⟩
  have he : ¬ (⟨code, left, got, lo, hi⟩ : Dc) = dc0 := fun e => by
    unfold dc0 at e
    simp only [Dc.mk.injEq] at e
    have h : (code == 0 && (left == 0 && (got == 0 && ((lo == 0 && (hi == 0 && true)) && true)))) = false := h
    obtain ⟨rfl, rfl, rfl, rfl, rfl⟩ := e
    cases h
  rw [if_neg he]
  refine ⟨fun h => ?_, fun h => ?_⟩
  · have h : b < lo := of_decide_eq_true h
    rw [if_pos (.inl h)]
    repeat (first | refine BCase.yes rfl ?_ | refine BCase.no rfl ?_)
    refine (uBegin b).sem _ ?_
    rcases beginS_two b with h2 | ⟨r, h2⟩
    · rw [h2]
      refine DrawP.intro tysOk mixed false ?_
      refine ⟨by kernel_rfl, ?_⟩
      exact ⟨_, rfl, .inr (.inr (.inl ⟨_, _, _, rfl, rfl⟩))⟩
    · rw [h2]
      refine DrawP.intro tysOk mixed false ?_
      refine ⟨by kernel_rfl, ?_⟩
      exact ⟨_, rfl, .inr (.inr (.inl ⟨_, _, _, rfl, rfl⟩))⟩
  have h2 : ¬ b < lo := of_decide_eq_false h
  repeat (first | refine BCase.yes rfl ?_ | refine BCase.no rfl ?_)
  refine ⟨fun h => ?_, fun h => ?_⟩
  · have h : b > hi := of_decide_eq_true h
    rw [if_pos (.inr h)]
    refine (uBegin b).sem _ ?_
    rcases beginS_two b with h2 | ⟨r, h2⟩
    · rw [h2]
      refine DrawP.intro tysOk mixed false ?_
      refine ⟨by kernel_rfl, ?_⟩
      exact ⟨_, rfl, .inr (.inr (.inl ⟨_, _, _, rfl, rfl⟩))⟩
    · rw [h2]
      refine DrawP.intro tysOk mixed false ?_
      refine ⟨by kernel_rfl, ?_⟩
      exact ⟨_, rfl, .inr (.inr (.inl ⟨_, _, _, rfl, rfl⟩))⟩
  have h3 : ¬ b > hi := of_decide_eq_false h
  rw [if_neg (fun e => e.elim h2 h3)]
  refine DrawP.intro tysOk mixed false ?_
  refine ⟨_, uAny.callT _ _, ?_⟩
  refine ⟨by kernel_rfl, ?_⟩
  refine ⟨fun h => ?_, fun h => ?_⟩
  · have h : (IntKind.u8.wrap (left - 1) == 0) = true := h
    rw [if_pos (show (moreS ⟨code, left, got, lo, hi⟩ b).left = 0 from eq_of_beq h)]
    refine DrawP.intro tysOk mixed false ?_
    refine ⟨by kernel_rfl, ?_⟩
    exact ⟨_, rfl, .inr (.inr (.inl ⟨_, _, _, rfl, rfl⟩))⟩
  · have h : (IntKind.u8.wrap (left - 1) == 0) = false := h
    rw [if_neg (show ¬ (moreS ⟨code, left, got, lo, hi⟩ b).left = 0 from fun e => by have e : IntKind.u8.wrap (left - 1) = 0 := e; rw [e] at h; cases h)]
    exact ⟨_, rfl, .inl rfl⟩
theorem someV_free (l : List Int) : (someV l).free = true := by cases l <;> rfl
theorem uPush (d : Dc) (b : Int) : Fn Tryz.prog 125 [d.v, .int .u8 b] (.tup [(pushS d b).1.v, someV (pushS d b).2]) := by
  refine ⟨rfl, ?_, ⟨fun φ μ B w cargs hB r ha => ((uPush0 d b).run φ μ B w cargs hB r ha).mono fun _ _ ⟨v, h', φ', μ', cv, e1, hK, hv, rest⟩ => ⟨_, h', φ', μ', cv, e1, rfl, ?_, rest⟩⟩⟩
  · generalize pushS d b = q
    obtain ⟨e, l⟩ := q
    cases l <;> rfl
  obtain ⟨x, rfl, hx⟩ := hK
  obtain ⟨cs, rfl, h1⟩ := hv.tup_inv
  have h2 := forgT_ok (φ := φ') (μ := μ') [(pushS d b).1.v, x] [(pushS d b).1.v, someV (pushS d b).2] ⟨.inl rfl, hx, trivial⟩
  exact .tup _ _ _ (h2.1.trans h1.1) fun j hj => h2.2 j _ (h1.2 j (by rw [← h2.1]; exact hj))
end Go.Cx
namespace Go.Cx
open Go.Proofs Go.Row
set_option maxRecDepth 100000
set_option maxHeartbeats 8000000
def strV (ss : List ByteArray) : List (List V) := ss.map fun s => [.str s]
def byteD (st : Dc × List Int) (b : UInt8) : Dc × List Int := ((pushS st.1 b.toNat).1, st.2 ++ (pushS st.1 b.toNat).2)
def bytesD (ss : List ByteArray) : List UInt8 := (ss.map fun s => s.data.toList).flatten
def decodeS (ss : List ByteArray) : List Int := let st := (bytesD ss).foldl byteD (dc0, []); st.2 ++ endS st.1
def accR (acc : List Int) : V := match acc with | [] => .nils | _ :: _ => .psl 1 (runV acc) (.own 1)
def accRH (d : Dc) (acc : List Int) : Heap := match acc with | [] => [some (.cells 192 d.cs)] | _ :: _ => [some (.cells 192 d.cs), some (.token 1 acc.length)]
def envD1 (ss : List ByteArray) (acc : List Int) (i : Int) : List V := [.psl 1 (strV ss) .any, .undef, accR acc, .ptr 0 0, .undef, .undef, .undef, .undef, .psl 1 (strV ss) .any, .int .i64 ss.length, .int .i64 i] ++ List.replicate 29 .undef
def envD2 (ss : List ByteArray) (acc : List Int) (i : Int) (s : ByteArray) (k : Int) : List V := [.psl 1 (strV ss) .any, .undef, accR acc, .ptr 0 0, .undef, .undef, .str s, .undef, .psl 1 (strV ss) .any, .int .i64 ss.length, .int .i64 i, .undef, .undef, .undef, .undef, .int .i64 s.size, .int .i64 k] ++ List.replicate 23 .undef
theorem strV_get {ss : List ByteArray} {i : Nat} {s : ByteArray} (h : ss[i]? = some s) : (strV ss)[i]? = some [.str s] := by simp [strV, h]
theorem strV_len (ss : List ByteArray) : (strV ss).length = ss.length := by simp [strV]
theorem bytesD_take {ss : List ByteArray} {i : Nat} {s : ByteArray} (h : ss[i]? = some s) : bytesD (ss.take (i + 1)) = bytesD (ss.take i) ++ s.data.toList := by
  obtain ⟨h1, h2⟩ := List.getElem?_eq_some_iff.1 h
  unfold bytesD
  rw [List.take_succ_eq_append_getElem h1, h2]
  simp
theorem byteD_step {pre : List UInt8} {s : ByteArray} {j : Nat} {st0 : Dc × List Int} {d : Dc} {acc : List Int} (hj : j < s.size) (h : (pre ++ s.data.toList.take j).foldl byteD st0 = (d, acc)) :
    (pre ++ s.data.toList.take (j + 1)).foldl byteD st0 = ((pushS d ((s.data.toList.getD (j : Int).toNat 0).toNat : Int)).1, acc ++ (pushS d ((s.data.toList.getD (j : Int).toNat 0).toNat : Int)).2) := by
  have hl : s.data.toList.length = s.size := Array.length_toList
  have hg : s.data.toList.getD (j : Int).toNat 0 = s.data.toList[j]'(by omega) := by
    rw [Int.toNat_natCast, List.getD_eq_getElem?_getD, List.getElem?_eq_getElem (by omega)]; rfl
  rw [List.take_succ_eq_append_getElem (by omega), ← List.append_assoc, List.foldl_append, h, hg]
  rfl
theorem pushS_len (d : Dc) (b : Int) : (pushS d b).2.length ≤ 2 := by
  have h := beginS_two b
  unfold pushS
  split
  · rcases h with h | ⟨r, h⟩ <;> rw [h] <;> simp
  · split
    · rcases h with h | ⟨r, h⟩ <;> simp [h]
    · split <;> simp
theorem decode_len2 (l : List UInt8) : ∀ st : Dc × List Int, (l.foldl byteD st).2.length ≤ st.2.length + 2 * l.length := by
  induction l with
  | nil => intro st; simp
  | cons b l ih =>
    intro st
    rw [List.foldl_cons]
    have h1 := ih (byteD st b)
    have h2 : (byteD st b).2.length ≤ st.2.length + 2 := by
      unfold byteD
      rw [List.length_append]
      have := pushS_len st.1 b.toNat
      omega
    rw [List.length_cons]; omega
theorem decode_len (l : List UInt8) : (l.foldl byteD (dc0, [])).2.length ≤ 2 * l.length := by
  have := decode_len2 l (dc0, [])
  simpa using this
theorem runV_len (l : List Int) : (runV l).length = l.length := by simp [runV]
theorem chk1 {l : List Int} {n : Nat} (h : l.length ≤ 2 * n) (hn : n < 2000000) : (true && true && Nat.ble ((runV l).length * (2 * 4)) 281474976710656) = true := by
  rw [runV_len, Nat.ble_eq_true_of_le (by omega)]; rfl
theorem chk2 {a l : List Int} {n : Nat} (h : (a ++ l).length ≤ 2 * n) (hn : n < 2000000) : (true && true && Nat.beq a.length (runV a).length && (true && true && Nat.ble (((runV a).length + (runV l).length) * (2 * 4)) 281474976710656)) = true := by
  rw [List.length_append] at h
  rw [runV_len, runV_len, Nat.beq_refl, Nat.ble_eq_true_of_le (by omega)]; rfl
theorem accR_app (a : Int) (acc l : List Int) : accR ((a :: acc) ++ l) = .psl 1 (runV (a :: acc) ++ runV l) (.own 1) := by
  show V.psl 1 (runV ((a :: acc) ++ l)) _ = _
  unfold runV
  rw [List.map_append]
theorem accR_nil (acc : List Int) : accR (acc ++ []) = accR acc := by rw [List.append_nil]
theorem accRH_app (d : Dc) (a : Int) (acc l : List Int) : accRH d ((a :: acc) ++ l) = [some (.cells 192 d.cs), some (.token 1 ((runV (a :: acc)).length + (runV l).length))] := by
  show [_, some (Blk.token 1 ((a :: acc) ++ l).length)] = _
  rw [List.length_append, runV_len, runV_len]
theorem accRH_one (d : Dc) (a : Int) (l : List Int) : accRH d ([] ++ (a :: l)) = [some (.cells 192 d.cs), some (.token 1 (runV (a :: l)).length)] := by
  rw [runV_len]; rfl
theorem accRH_nil (d : Dc) (acc : List Int) : accRH d (acc ++ []) = accRH d acc := by rw [List.append_nil]
theorem endS_two (d : Dc) : endS d = [] ∨ endS d = [65533] := by
  unfold endS; split
  · exact .inl rfl
  · exact .inr rfl
theorem uDecode (ss : List ByteArray) (hn : ss.length < 100000) (hb : (bytesD ss).length < 1000000) : Fn Tryz.prog 80 [.psl 1 (strV ss) .any] (someV (decodeS ss)) := by
  refine ⟨rfl, someV_free _, Sem.gives (Sem.of_body tysOk md0 Tryz.func80 rfl rfl ?_)⟩
  have hbound : ∀ (i : Nat) (s : ByteArray), ss[i]? = some s → ∀ j, (bytesD (ss.take i) ++ s.data.toList.take j).length < 1000000 := fun i s hs j => by
    have h1 := congrArg List.length (bytesD_take hs)
    have h2 : (bytesD (ss.take (i + 1))).length ≤ (bytesD ss).length := by
      have e : bytesD ss = bytesD (ss.take (i + 1)) ++ bytesD (ss.drop (i + 1)) := by
        conv => lhs; rw [← List.take_append_drop (i + 1) ss]
        unfold bytesD; rw [List.map_append, List.flatten_append]
      rw [e, List.length_append]; omega
    rw [List.length_append] at h1 ⊢
    have h3 : (s.data.toList.take j).length ≤ s.data.toList.length := by rw [List.length_take]; omega
    omega
  refine LoopP.inv (md := md0) (fun k env h => ∃ (i : Nat) (d : Dc) (acc : List Int), k = ss.length - i ∧ i ≤ ss.length ∧ (bytesD (ss.take i)).foldl byteD (dc0, []) = (d, acc) ∧ env = envD1 ss acc i ∧ h = accRH d acc) ss.length ⟨envD1 ss [] 0, _, .same ?_ rfl, 0, dc0, [], rfl, Nat.zero_le _, rfl, rfl, rfl⟩ ?_
  · have e : (V.int .i64 ((strV ss).length : Int)) = V.int .i64 (ss.length : Int) := by rw [strV_len]
    repeat (first | exact trivial | refine ⟨.inl rfl, ?_⟩ | refine ⟨.inl e.symm, ?_⟩ | refine ⟨.inr rfl, ?_⟩)
  rintro k _ _ ⟨i, d, acc, rfl, hi, hst, rfl, rfl⟩
  cases acc
  all_goals
    refine ⟨fun h => ?_, fun h => ?_⟩
    · have hi' : i < ss.length := by have := of_decide_eq_true h; omega
      obtain ⟨s, hs⟩ : ∃ s, ss[i]? = some s := ⟨_, List.getElem?_eq_getElem hi'⟩
      refine ⟨_, ⟨by omega, by rw [Int.toNat_natCast]; exact strV_get hs⟩, gdP rfl ?_⟩
      have hst0 := hst
      rw [show bytesD (ss.take i) = bytesD (ss.take i) ++ s.data.toList.take 0 by rw [List.take_zero, List.append_nil]] at hst0
      refine LoopP.inv (md := md0) (fun k env h => ∃ (j : Nat) (d : Dc) (acc : List Int), k = s.size - j ∧ j ≤ s.size ∧ (bytesD (ss.take i) ++ s.data.toList.take j).foldl byteD (dc0, []) = (d, acc) ∧ env = envD2 ss acc i s j ∧ h = accRH d acc) s.size ⟨_, _, .same ?_ rfl, 0, d, _, rfl, Nat.zero_le _, hst0, rfl, rfl⟩ ?_
      · repeat (first | exact trivial | refine ⟨.inl rfl, ?_⟩ | refine ⟨.inr rfl, ?_⟩)
      rintro k _ _ ⟨j, d, acc, rfl, hj, hst1, rfl, rfl⟩
      cases acc
      all_goals
        refine ⟨fun h => ?_, fun h => ?_⟩
        · have hj' : j < s.size := by have := of_decide_eq_true h; omega
          have hq1 : (decide (0 ≤ (j : Int)) && decide ((j : Int) < s.size)) = true := by rw [Bool.and_eq_true]; exact ⟨decide_eq_true (by omega), decide_eq_true (by omega)⟩
          have hst2 := byteD_step (s := s) hj' hst1
          have hpu := uPush d ((s.data.toList.getD (j : Int).toNat 0).toNat : Int)
          generalize pushS d ((s.data.toList.getD (j : Int).toNat 0).toNat : Int) = q at hpu hst2
          obtain ⟨d2, l⟩ := q
          have hbd := decode_len (bytesD (ss.take i) ++ s.data.toList.take (j + 1))
          rw [hst2] at hbd
          have hle := hbound i s hs (j + 1)
          have hj6 : j < 1000000 := by
            have h9 := hle
            rw [List.length_append, List.length_take, show s.data.toList.length = s.size from Array.length_toList] at h9
            omega
          cases l
          all_goals
            refine DrawP.intro tysOk mixed false ?_
            refine gdP hq1 ?_
            refine ⟨_, hpu.callT _ _, ?_⟩
            refine ⟨by kernel_rfl, ?_⟩
            try refine gdP (by first | exact chk2 hbd (Nat.lt_trans hle (by decide)) | exact chk1 hbd (Nat.lt_trans hle (by decide))) ?_
            refine ⟨s.size - (j + 1), _, _, by omega, .same ?_ ?_, j + 1, d2, _, rfl, hj', hst2, rfl, rfl⟩
            · repeat (first | exact trivial | refine ⟨.inl rfl, ?_⟩ | refine ⟨.inl (accR_nil _), ?_⟩ | refine ⟨.inl (accR_app _ _ _), ?_⟩ | refine ⟨.inl (congrArg (V.int .i64) (wrs j 1 (by omega)).symm), ?_⟩ | refine ⟨.inr rfl, ?_⟩)
            · first | exact accRH_nil _ _ | exact accRH_app _ _ _ _ | exact accRH_one _ _ _
        · have hj' : j = s.size := by have := of_decide_eq_false h; omega
          subst hj'
          have hst2 := hst1
          rw [show s.data.toList.take s.size = s.data.toList from List.take_of_length_le (Nat.le_of_eq Array.length_toList), ← bytesD_take hs] at hst2
          refine ⟨ss.length - (i + 1), _, _, by omega, .same ?_ rfl, i + 1, d, _, rfl, hi', hst2, rfl, rfl⟩
          repeat (first | exact trivial | refine ⟨.inl rfl, ?_⟩ | refine ⟨.inl (congrArg (V.int .i64) (wrs i 1 (by omega)).symm), ?_⟩ | refine ⟨.inr rfl, ?_⟩)
    · have hi' : i = ss.length := by have := of_decide_eq_false h; omega
      subst hi'
      rw [List.take_length] at hst
      have hbd := decode_len (bytesD ss)
      rw [hst] at hbd
      have hen := uEnd d
      have hdec : decodeS ss = ((bytesD ss).foldl byteD (dc0, [])).2 ++ endS d := by unfold decodeS; rw [hst]
      rw [hst] at hdec
      rcases endS_two d with he | he
      · rw [he] at hen hdec
        refine hen.sem _ ?_
        rw [hdec]
        first
        | exact .inl rfl
        | exact .inr (.inr ⟨_, forgT_psl, by rw [List.append_nil]; rfl⟩)
      · rw [he] at hen hdec
        refine hen.sem _ ?_
        try refine gdP (chk2 (l := [65533]) (n := (bytesD ss).length + 1) (by rw [List.length_append]; simp only [List.length_cons, List.length_nil] at hbd ⊢; omega) (by omega)) ?_
        rw [hdec]
        refine .inr (.inr ⟨_, forgT_psl, ?_⟩)
        first
        | rfl
        | (unfold runV; rw [← List.map_append]; rfl)
end Go.Cx
