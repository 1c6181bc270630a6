/- What functions of this seat compute, each for every argument of the shapes that are named; no condition beside the stated ones. -/
import Derived.Test.YtchadfgdcncpkaaGreatLK9g
namespace Go.Cx
open Go.Proofs Go.Row
set_option maxRecDepth 100000
set_option maxHeartbeats 32000000
/-! ### The closed statement: its parts -/
theorem newN_pw (n C most : Nat) (hm : mayB (n + 1 : Nat) C = true) (hmo : most ≤ 1000) : PW most (newP n C 0 most) := newP_pw n C hm (Int.le_refl _) (by decide) most hmo
theorem PW.text {m : Nat} {p : Pg} (h : PW m p) (s : ByteArray) (hr : ((decodeS [s]).all fun r => decide (-2147483648 ≤ r)) = true) : PW m (runesS p 0 (decodeS [s])) :=
  h.runes (Int.le_refl _) (by decide) fun r hm => of_decide_eq_true (List.all_eq_true.1 hr r hm)
theorem text1 {p : Pg} (h : p.good) (s : ByteArray) (hs : s.size < 100000) : Eff Tryz.prog 12 [.ptr 0 0, .int .u8 0, .psl 1 [[.str s]] .exact] (pgB p) (pgB (runesS p 0 (decodeS [s]))) (.int .i64 (countR (decodeS [s]))) :=
  pText p h 0 [s] (by show 1 < 100000; decide) (by
    show ((s.data.toList ++ []).length) < 1000000
    rw [List.append_nil, show s.data.toList.length = s.size from Array.length_toList]; omega)
def wi0' : Pg := newP 3 2 0 9
def wi1 : Pg := pMarginsS wi0' 2 3
def wi2 : Pg := { wi1 with c := withinS wi1.a ⟨1, 0, false, 0⟩ }
def wi3 : Pg := runesS wi2 0 (decodeS [⟨#[97, 98, 99, 100, 101, 102]⟩])
theorem wi0_pw : PW 9 wi0' := newN_pw 3 2 9 rfl (by decide)
theorem wi1_pw : PW 9 wi1 := wi0_pw.margins 2 3
theorem wi2_pw : PW 9 wi2 := wi1_pw.place fun h => by cases h
theorem wi3_pw : PW 9 wi3 := wi2_pw.text _ (by kernel_rfl)
def rw2 (a b : Int) : List Cl := [clA a, clA b]
theorem wi3_rows : (shG wi3).rows = [rw2 0 0, rw2 99 100, rw2 101 102, rw2 0 0] := by kernel_rfl
theorem wi3_ring : rgI wi3.r = .iptr [.nils, .int .i64 0, .int .i64 9, .int .u8 0] ∧ wi3.r.lines.length = 0 := ⟨by kernel_rfl, by kernel_rfl⟩
theorem within19 : Fn Tryz.prog 21 [] (.bool true) := by
  have e0 := pNew 3 2 rfl 0 (Int.le_refl _) (by decide) 9 (by decide)
  change Eff _ _ _ _ (pgB wi0') _ at e0
  have e1 := pMargins wi0' wi0_pw.i.ok wi0_pw.i.a 2 3
  change Eff _ _ _ _ (pgB wi1) (.bool true) at e1
  have e2 := pPlace wi1 wi1_pw.i.ok wi1_pw.i.a ⟨1, 0, false, 0⟩
  change Eff _ _ _ _ (pgB wi2) _ at e2
  have e3 := text1 wi2_pw.i.good ⟨#[97, 98, 99, 100, 101, 102]⟩ (by decide)
  change Eff _ _ _ _ (pgB wi3) _ at e3
  have ok := wi3_pw.i.ok
  have e4 := pShownL wi3 ok wi3_pw.i.good.g
  rw [wi3_rows] at e4
  have e5 := pLines wi3 ok
  have e6 := iLen wi3.r
  rw [wi3_ring.1] at e5 e6
  rw [wi3_ring.2] at e6
  generalize wi0' = p0 at e0 e1
  generalize wi1 = p1 at e1 e2
  generalize wi2 = p2 at e2 e3
  generalize wi3 = p3 at e3 e4 e5 e6
  refine Fn.of_body tysOk md0 Tryz.func21 rfl rfl rfl rfl ?_
  refine e0.call [] 0 rfl rfl (by decide) rfl rfl ?_
  rw [pgB_new]
  refine e1.here rfl [] rfl ?_
  refine e2.here rfl [] rfl ?_
  refine e3.here rfl [] rfl ?_
  refine e4.here rfl [] rfl ?_
  repeat (first | refine BCase.yes rfl ?_ | refine BCase.no rfl ?_)
  refine ⟨_, ⟨by decide, rfl⟩, gdP rfl ?_⟩
  repeat (first | refine BCase.yes rfl ?_ | refine BCase.no rfl ?_)
  refine (rText (rw2 0 0) (by decide)).sem _ ?_
  repeat (first | refine BCase.yes rfl ?_ | refine BCase.no rfl ?_)
  refine ⟨_, ⟨by decide, rfl⟩, gdP rfl ?_⟩
  repeat (first | refine BCase.yes rfl ?_ | refine BCase.no rfl ?_)
  refine (rText (rw2 99 100) (by decide)).sem _ ?_
  repeat (first | refine BCase.yes rfl ?_ | refine BCase.no rfl ?_)
  refine ⟨_, ⟨by decide, rfl⟩, gdP rfl ?_⟩
  repeat (first | refine BCase.yes rfl ?_ | refine BCase.no rfl ?_)
  refine (rText (rw2 101 102) (by decide)).sem _ ?_
  repeat (first | refine BCase.yes rfl ?_ | refine BCase.no rfl ?_)
  refine ⟨_, ⟨by decide, rfl⟩, gdP rfl ?_⟩
  repeat (first | refine BCase.yes rfl ?_ | refine BCase.no rfl ?_)
  refine (rText (rw2 0 0) (by decide)).sem _ ?_
  repeat (first | refine BCase.yes rfl ?_ | refine BCase.no rfl ?_)
  refine e5.here rfl [] rfl ?_
  repeat (first | refine BCase.yes rfl ?_ | refine BCase.no rfl ?_)
  refine e6.sem _ ?_
  repeat (first | refine BCase.yes rfl ?_ | refine BCase.no rfl ?_)
  rfl
end Go.Cx
namespace Go.Cx
open Go.Proofs Go.Row
set_option maxRecDepth 100000
set_option maxHeartbeats 64000000
theorem prS_pw (s : ByteArray) (hr : ((decodeS [s]).all fun r => decide (-2147483648 ≤ r)) = true) : PW 3 (prS s) := (newN_pw 1 4 3 rfl (by decide)).text s hr
def modeP (p : Pg) (on : Bool) (x : Md) : Pg := pModeS p on x
def placeP (p : Pg) (c : Cu) : Pg := { p with c := withinS p.a c }
def textP (p : Pg) (s : ByteArray) : Pg := runesS p 0 (decodeS [s])
def in0 : Pg := prS ⟨#[97, 98, 99]⟩
theorem in0_pw : PW 3 in0 := prS_pw _ (by kernel_rfl)
def in1 : Pg := modeP in0 true ⟨false, 4⟩
theorem in1_pw : PW 3 in1 := show PW 3 (pModeS in0 true ⟨false, 4⟩) from in0_pw.mode _ _
def in2 : Pg := placeP in1 ⟨0, 1, false, 0⟩
theorem in2_pw : PW 3 in2 := in1_pw.place fun h => by cases h
def in3 : Pg := textP in2 ⟨#[228, 184, 173]⟩
theorem in3_pw : PW 3 in3 := in2_pw.text _ (by kernel_rfl)
def of0 : Pg := prS ⟨#[]⟩
theorem of0_pw : PW 3 of0 := prS_pw _ (by kernel_rfl)
def of1 : Pg := modeP of0 false ⟨true, 7⟩
theorem of1_pw : PW 3 of1 := show PW 3 (pModeS of0 false ⟨true, 7⟩) from of0_pw.mode _ _
def of2 : Pg := textP of1 ⟨#[97, 98, 99, 100, 101, 102, 103]⟩
theorem of2_pw : PW 3 of2 := of1_pw.text _ (by kernel_rfl)
def wd2 : Pg := textP of1 ⟨#[97, 98, 99, 100, 228, 184, 173]⟩
theorem wd2_pw : PW 3 wd2 := of1_pw.text _ (by kernel_rfl)
def on0 : Pg := newP 1 1 0 0
theorem on0_pw : PW 0 on0 := newN_pw 1 1 0 rfl (by decide)
def on1 : Pg := textP on0 ⟨#[228, 184, 173, 98]⟩
theorem on1_pw : PW 0 on1 := on0_pw.text _ (by kernel_rfl)
def mk0 : Pg := prS ⟨#[97, 204, 128, 204, 129, 204, 130]⟩
theorem mk0_pw : PW 3 mk0 := prS_pw _ (by kernel_rfl)
def fu0 : Pg := prS ⟨#[97, 98, 99, 100, 204, 128]⟩
theorem fu0_pw : PW 3 fu0 := prS_pw _ (by kernel_rfl)
def ha0 : Pg := prS ⟨#[228, 184, 173, 204, 128]⟩
theorem ha0_pw : PW 3 ha0 := prS_pw _ (by kernel_rfl)
def hi0 : Pg := prS ⟨#[97, 98]⟩
theorem hi0_pw : PW 3 hi0 := prS_pw _ (by kernel_rfl)
def hi1 : Pg := runeS hi0 99 1
theorem hi1_pw : PW 3 hi1 := hi0_pw.rune (by decide) (by decide) (by decide)
def no0 : Pg := prS ⟨#[204, 129, 7]⟩
theorem no0_pw : PW 3 no0 := prS_pw _ (by kernel_rfl)
theorem in3_sh : Shown in3 ⟨#[97, 228, 184, 173, 98]⟩ ⟨#[32, 32, 32, 32]⟩ ⟨0, 3, false, 0⟩ := ⟨in3_pw.i.good, by kernel_rfl, by kernel_rfl⟩
theorem of2_sh : Shown of2 ⟨#[97, 98, 99, 103]⟩ ⟨#[32, 32, 32, 32]⟩ ⟨0, 3, true, 0⟩ := ⟨of2_pw.i.good, by kernel_rfl, by kernel_rfl⟩
theorem wd2_sh : Shown wd2 ⟨#[97, 98, 228, 184, 173]⟩ ⟨#[32, 32, 32, 32]⟩ ⟨0, 3, true, 0⟩ := ⟨wd2_pw.i.good, by kernel_rfl, by kernel_rfl⟩
theorem on1_sh : Shown on1 ⟨#[239, 191, 189]⟩ ⟨#[98]⟩ ⟨1, 0, true, 0⟩ := ⟨on1_pw.i.good, by kernel_rfl, by kernel_rfl⟩
theorem no0_sh : Shown no0 ⟨#[32, 32, 32, 32]⟩ ⟨#[32, 32, 32, 32]⟩ ⟨0, 0, false, 0⟩ := ⟨no0_pw.i.good, by kernel_rfl, by kernel_rfl⟩
theorem on1_last : on1.last = 98 ∧ on1.known = 0 := ⟨by kernel_rfl, by kernel_rfl⟩
theorem mk0_m : (cellAt (shG mk0) 0 0).m0 = 768 ∧ (cellAt (shG mk0) 0 0).m1 = 769 := ⟨by kernel_rfl, by kernel_rfl⟩
theorem fu0_m : (cellAt (shG fu0) 0 3).m0 = 768 := by kernel_rfl
theorem ha0_m : (cellAt (shG ha0) 0 0).m0 = 768 := by kernel_rfl
theorem hi1_l : (cellAt (shG hi1) 1 3).lab = 1 ∧ hi1.known = 1 ∧ hi1.c.lab = 1 := ⟨by kernel_rfl, by kernel_rfl, by kernel_rfl⟩
theorem hi1_ring : rgI hi1.r = .iptr [.nils, .int .i64 0, .int .i64 3, .int .u8 1] ∧ hi1.r.lab = 1 := ⟨by kernel_rfl, by kernel_rfl⟩
theorem mk0_sz : (shG mk0).rows.length = 2 ∧ (shG mk0).cols = 4 := ⟨by kernel_rfl, by kernel_rfl⟩
theorem fu0_sz : (shG fu0).rows.length = 2 ∧ (shG fu0).cols = 4 := ⟨by kernel_rfl, by kernel_rfl⟩
theorem ha0_sz : (shG ha0).rows.length = 2 ∧ (shG ha0).cols = 4 := ⟨by kernel_rfl, by kernel_rfl⟩
theorem hi1_sz : (shG hi1).rows.length = 2 ∧ (shG hi1).cols = 4 := ⟨by kernel_rfl, by kernel_rfl⟩
theorem runeNil (r l : Int) : Fn Tryz.prog 26 [.nilp, .int .i32 r, .int .u8 l] (.bool false) := by
  refine Fn.of_body tysOk md0 Tryz.func26 rfl rfl rfl rfl ?_
  refine (wOfF r).sem _ ?_
  repeat (first | refine BCase.yes rfl ?_ | refine BCase.no rfl ?_)
  rfl
theorem repeatNil (n l : Int) : Fn Tryz.prog 29 [.nilp, .int .i64 n, .int .u8 l] (.int .i64 0) := by
  refine Fn.of_body tysOk md0 Tryz.func29 rfl rfl rfl rfl ?_
  repeat (first | refine BCase.yes rfl ?_ | refine BCase.no rfl ?_)
  rfl
theorem textNil : Fn Tryz.prog 12 [.nilp, .int .u8 0, .psl 1 [[.str ⟨#[97]⟩]] .exact] (.int .i64 0) := Fn.of_val fOk (noNE_ok _) tysOk mixed (fun _ _ => false) 10000 20 rfl rfl (by kernel_rfl)
theorem pgK_0 (p : Pg) (n : Nat) : (hpOf (pgB p)).map (Blk.mv (iot [0, 1, 2, 3, 4, 5, 6] n)) = pgAt 0 p := pgB_mvG p _ 0 rfl rfl rfl rfl rfl rfl
theorem pgK_7 (p : Pg) (n : Nat) : (hpOf (pgB p)).map (Blk.mv (iot [7, 8, 9, 10, 11, 12, 13] n)) = pgAt 7 p := pgB_mvG p _ 7 rfl rfl rfl rfl rfl rfl
theorem pgK_14 (p : Pg) (n : Nat) : (hpOf (pgB p)).map (Blk.mv (iot [14, 15, 16, 17, 18, 19, 20] n)) = pgAt 14 p := pgB_mvG p _ 14 rfl rfl rfl rfl rfl rfl
theorem pgK_21 (p : Pg) (n : Nat) : (hpOf (pgB p)).map (Blk.mv (iot [21, 22, 23, 24, 25, 26, 27] n)) = pgAt 21 p := pgB_mvG p _ 21 rfl rfl rfl rfl rfl rfl
theorem pgK_28 (p : Pg) (n : Nat) : (hpOf (pgB p)).map (Blk.mv (iot [28, 29, 30, 31, 32, 33, 34] n)) = pgAt 28 p := pgB_mvG p _ 28 rfl rfl rfl rfl rfl rfl
theorem pgK_36 (p : Pg) (n : Nat) : (hpOf (pgB p)).map (Blk.mv (iot [36, 37, 38, 39, 40, 41, 42] n)) = pgAt 36 p := pgB_mvG p _ 36 rfl rfl rfl rfl rfl rfl
theorem pgK_44 (p : Pg) (n : Nat) : (hpOf (pgB p)).map (Blk.mv (iot [44, 45, 46, 47, 48, 49, 50] n)) = pgAt 44 p := pgB_mvG p _ 44 rfl rfl rfl rfl rfl rfl
theorem pgK_52 (p : Pg) (n : Nat) : (hpOf (pgB p)).map (Blk.mv (iot [52, 53, 54, 55, 56, 57, 58] n)) = pgAt 52 p := pgB_mvG p _ 52 rfl rfl rfl rfl rfl rfl
theorem pgK_60 (p : Pg) (n : Nat) : (hpOf (pgB p)).map (Blk.mv (iot [60, 61, 62, 63, 64, 65, 66] n)) = pgAt 60 p := pgB_mvG p _ 60 rfl rfl rfl rfl rfl rfl
theorem known19 : Fn Tryz.prog 4 [] (.bool true) := by
  have e_in0 := printedF ⟨#[97, 98, 99]⟩ (by decide)
  change Eff _ _ _ _ (pgB in0) _ at e_in0
  have e_in1 := pMode in0 in0_pw.i.ok in0_pw.i.a true ⟨false, 4⟩
  change Eff _ _ _ _ (pgB in1) _ at e_in1
  have e_in2 := pPlace in1 in1_pw.i.ok in1_pw.i.a ⟨0, 1, false, 0⟩
  change Eff _ _ _ _ (pgB in2) _ at e_in2
  have e_in3 := text1 in2_pw.i.good ⟨#[228, 184, 173]⟩ (by decide)
  change Eff _ _ _ _ (pgB in3) _ at e_in3
  have e_of0 := printedF ⟨#[]⟩ (by decide)
  change Eff _ _ _ _ (pgB of0) _ at e_of0
  have e_of1 := pMode of0 of0_pw.i.ok of0_pw.i.a false ⟨true, 7⟩
  change Eff _ _ _ _ (pgB of1) _ at e_of1
  have e_of2 := text1 of1_pw.i.good ⟨#[97, 98, 99, 100, 101, 102, 103]⟩ (by decide)
  change Eff _ _ _ _ (pgB of2) _ at e_of2
  have e_wd2 := text1 of1_pw.i.good ⟨#[97, 98, 99, 100, 228, 184, 173]⟩ (by decide)
  change Eff _ _ _ _ (pgB wd2) _ at e_wd2
  have e_on0 := pNew 1 1 rfl 0 (Int.le_refl _) (by decide) 0 (by decide)
  change Eff _ _ _ _ (pgB on0) _ at e_on0
  have e_on1 := text1 on0_pw.i.good ⟨#[228, 184, 173, 98]⟩ (by decide)
  change Eff _ _ _ _ (pgB on1) _ at e_on1
  have l_on1 := pLast on1 on1_pw.i.ok
  rw [on1_last.1, on1_last.2] at l_on1
  have e_mk0 := printedF ⟨#[97, 204, 128, 204, 129, 204, 130]⟩ (by decide)
  change Eff _ _ _ _ (pgB mk0) _ at e_mk0
  have e_fu0 := printedF ⟨#[97, 98, 99, 100, 204, 128]⟩ (by decide)
  change Eff _ _ _ _ (pgB fu0) _ at e_fu0
  have e_ha0 := printedF ⟨#[228, 184, 173, 204, 128]⟩ (by decide)
  change Eff _ _ _ _ (pgB ha0) _ at e_ha0
  have e_hi0 := printedF ⟨#[97, 98]⟩ (by decide)
  change Eff _ _ _ _ (pgB hi0) _ at e_hi0
  have e_no0 := printedF ⟨#[204, 129, 7]⟩ (by decide)
  change Eff _ _ _ _ (pgB no0) _ at e_no0
  have a_mk0 := pAt mk0 mk0_pw.i.ok mk0_pw.i.sh.ok 0 0 (by rw [mk0_sz.1]; decide) (by rw [mk0_sz.2]; decide)
  obtain ⟨m_mk0, m_mk1⟩ := mk0_m
  generalize cellAt (shG mk0) 0 0 = c_mk0 at a_mk0 m_mk0 m_mk1
  have a_fu0 := pAt fu0 fu0_pw.i.ok fu0_pw.i.sh.ok 0 3 (by rw [fu0_sz.1]; decide) (by rw [fu0_sz.2]; decide)
  have m_fu0 := fu0_m
  generalize cellAt (shG fu0) 0 3 = c_fu0 at a_fu0 m_fu0
  have a_ha0 := pAt ha0 ha0_pw.i.ok ha0_pw.i.sh.ok 0 0 (by rw [ha0_sz.1]; decide) (by rw [ha0_sz.2]; decide)
  have m_ha0 := ha0_m
  generalize cellAt (shG ha0) 0 0 = c_ha0 at a_ha0 m_ha0
  have e_hi1 := pRune hi0 hi0_pw.i.good 99 1
  change Eff _ _ _ _ (pgB hi1) _ at e_hi1
  have a_hi1 := pAt hi1 hi1_pw.i.ok hi1_pw.i.sh.ok 1 3 (by rw [hi1_sz.1]; decide) (by rw [hi1_sz.2]; decide)
  obtain ⟨m_hi1, k_hi1, d_hi1⟩ := hi1_l
  generalize cellAt (shG hi1) 1 3 = c_hi1 at a_hi1 m_hi1
  have l_hi1 := pLast hi1 hi1_pw.i.ok
  have cu_hi1 := pCursor hi1 hi1_pw.i.ok
  have ri_hi1 := pLines hi1 hi1_pw.i.ok
  have rl_hi1 := iLabel hi1.r
  rw [hi1_ring.1] at ri_hi1 rl_hi1
  rw [hi1_ring.2] at rl_hi1
  have s_in3 := showsF in3_sh
  have s_of2 := showsF of2_sh
  have s_wd2 := showsF wd2_sh
  have s_on1 := showsF on1_sh
  have s_no0 := showsF no0_sh
  generalize in0 = q_in0 at *
  generalize in1 = q_in1 at *
  generalize in2 = q_in2 at *
  generalize in3 = q_in3 at *
  generalize of0 = q_of0 at *
  generalize of1 = q_of1 at *
  generalize of2 = q_of2 at *
  generalize wd2 = q_wd2 at *
  generalize on0 = q_on0 at *
  generalize on1 = q_on1 at *
  generalize mk0 = q_mk0 at *
  generalize fu0 = q_fu0 at *
  generalize ha0 = q_ha0 at *
  generalize hi0 = q_hi0 at *
  generalize hi1 = q_hi1 at *
  generalize no0 = q_no0 at *
  refine Fn.of_body tysOk md0 Tryz.func4 rfl rfl rfl rfl ?_
  refine within19.sem _ ?_
  refine e_in0.call [] 0 rfl rfl (by decide) rfl rfl ?_
  rw [pgB_new]
  refine e_in1.call [0, 1, 2, 3, 4, 5, 6] 7 rfl rfl (by decide) rfl (pgK_0 _ 7).symm ?_
  rw [pgK_0]
  refine e_in2.call [0, 1, 2, 3, 4, 5, 6] 7 rfl rfl (by decide) rfl (pgK_0 _ 7).symm ?_
  rw [pgK_0]
  refine e_in3.call [0, 1, 2, 3, 4, 5, 6] 7 rfl rfl (by decide) rfl (pgK_0 _ 7).symm ?_
  rw [pgK_0]
  refine e_of0.call [] 7 rfl rfl (by decide) rfl rfl ?_
  rw [pgB_new]
  refine e_of1.call [7, 8, 9, 10, 11, 12, 13] 14 rfl rfl (by decide) rfl (pgK_7 _ 14).symm ?_
  rw [pgK_7]
  refine e_of2.call [7, 8, 9, 10, 11, 12, 13] 14 rfl rfl (by decide) rfl (pgK_7 _ 14).symm ?_
  rw [pgK_7]
  refine e_of0.call [] 14 rfl rfl (by decide) rfl rfl ?_
  rw [pgB_new]
  refine e_of1.call [14, 15, 16, 17, 18, 19, 20] 21 rfl rfl (by decide) rfl (pgK_14 _ 21).symm ?_
  rw [pgK_14]
  refine e_wd2.call [14, 15, 16, 17, 18, 19, 20] 21 rfl rfl (by decide) rfl (pgK_14 _ 21).symm ?_
  rw [pgK_14]
  refine e_on0.call [] 21 rfl rfl (by decide) rfl rfl ?_
  rw [pgB_new]
  refine e_on1.call [21, 22, 23, 24, 25, 26, 27] 28 rfl rfl (by decide) rfl (pgK_21 _ 28).symm ?_
  rw [pgK_21]
  refine l_on1.call [21, 22, 23, 24, 25, 26, 27] 28 rfl rfl (by decide) rfl (pgK_21 _ 28).symm ?_
  rw [pgK_21]
  refine e_mk0.call [] 28 rfl rfl (by decide) rfl rfl ?_
  rw [pgB_new]
  refine a_mk0.call [28, 29, 30, 31, 32, 33, 34] 35 rfl rfl (by decide) rfl (pgK_28 _ 35).symm ?_
  rw [pgK_28]
  refine e_fu0.call [] 36 rfl rfl (by decide) rfl rfl ?_
  rw [pgB_new]
  refine a_fu0.call [36, 37, 38, 39, 40, 41, 42] 43 rfl rfl (by decide) rfl (pgK_36 _ 43).symm ?_
  rw [pgK_36]
  refine e_ha0.call [] 44 rfl rfl (by decide) rfl rfl ?_
  rw [pgB_new]
  refine a_ha0.call [44, 45, 46, 47, 48, 49, 50] 51 rfl rfl (by decide) rfl (pgK_44 _ 51).symm ?_
  rw [pgK_44]
  refine e_hi0.call [] 52 rfl rfl (by decide) rfl rfl ?_
  rw [pgB_new]
  refine e_hi1.call [52, 53, 54, 55, 56, 57, 58] 59 rfl rfl (by decide) rfl (pgK_52 _ 59).symm ?_
  rw [pgK_52]
  refine a_hi1.call [52, 53, 54, 55, 56, 57, 58] 59 rfl rfl (by decide) rfl (pgK_52 _ 59).symm ?_
  rw [pgK_52]
  refine l_hi1.call [52, 53, 54, 55, 56, 57, 58] 60 rfl rfl (by decide) rfl (pgK_52 _ 60).symm ?_
  rw [pgK_52]
  repeat (first | refine BCase.yes rfl ?_ | refine BCase.no rfl ?_)
  refine works19.sem _ ?_
  repeat (first | refine BCase.yes rfl ?_ | refine BCase.no rfl ?_)
  refine s_in3.call [0, 1, 2, 3, 4, 5, 6] 60 rfl rfl (by decide) rfl (pgK_0 _ 60).symm ?_
  rw [pgK_0]
  repeat (first | refine BCase.yes rfl ?_ | refine BCase.no rfl ?_)
  refine s_of2.call [7, 8, 9, 10, 11, 12, 13] 60 rfl rfl (by decide) rfl (pgK_7 _ 60).symm ?_
  rw [pgK_7]
  repeat (first | refine BCase.yes rfl ?_ | refine BCase.no rfl ?_)
  refine s_wd2.call [14, 15, 16, 17, 18, 19, 20] 60 rfl rfl (by decide) rfl (pgK_14 _ 60).symm ?_
  rw [pgK_14]
  repeat (first | refine BCase.yes rfl ?_ | refine BCase.no rfl ?_)
  refine s_on1.call [21, 22, 23, 24, 25, 26, 27] 60 rfl rfl (by decide) rfl (pgK_21 _ 60).symm ?_
  rw [pgK_21]
  repeat (first | refine BCase.yes rfl ?_ | refine BCase.no rfl ?_)
  refine BCase.yes (show (c_mk0.m0 == 768 && (c_mk0.m1 == 769 && true)) = true by rw [m_mk0, m_mk1]; rfl) ?_
  repeat (first | refine BCase.yes rfl ?_ | refine BCase.no rfl ?_)
  refine BCase.yes (beqT m_fu0) ?_
  repeat (first | refine BCase.yes rfl ?_ | refine BCase.no rfl ?_)
  refine BCase.yes (beqT m_ha0) ?_
  repeat (first | refine BCase.yes rfl ?_ | refine BCase.no rfl ?_)
  refine BCase.yes (beqT m_hi1) ?_
  repeat (first | refine BCase.yes rfl ?_ | refine BCase.no rfl ?_)
  refine BCase.yes (beqT k_hi1) ?_
  repeat (first | refine BCase.yes rfl ?_ | refine BCase.no rfl ?_)
  refine cu_hi1.call [52, 53, 54, 55, 56, 57, 58] 60 rfl rfl (by decide) rfl (pgK_52 _ 60).symm ?_
  rw [pgK_52]
  repeat (first | refine BCase.yes rfl ?_ | refine BCase.no rfl ?_)
  refine BCase.yes (beqT d_hi1) ?_
  repeat (first | refine BCase.yes rfl ?_ | refine BCase.no rfl ?_)
  refine ri_hi1.call [52, 53, 54, 55, 56, 57, 58] 60 rfl rfl (by decide) rfl (pgK_52 _ 60).symm ?_
  rw [pgK_52]
  repeat (first | refine BCase.yes rfl ?_ | refine BCase.no rfl ?_)
  refine rl_hi1.sem _ ?_
  repeat (first | refine BCase.yes rfl ?_ | refine BCase.no rfl ?_)
  refine (runeNil 97 0).sem _ ?_
  repeat (first | refine BCase.yes rfl ?_ | refine BCase.no rfl ?_)
  refine textNil.sem _ ?_
  repeat (first | refine BCase.yes rfl ?_ | refine BCase.no rfl ?_)
  refine (repeatNil 3 0).sem _ ?_
  repeat (first | refine BCase.yes rfl ?_ | refine BCase.no rfl ?_)
  refine e_no0.call [] 60 rfl rfl (by decide) rfl rfl ?_
  rw [pgB_new]
  repeat (first | refine BCase.yes rfl ?_ | refine BCase.no rfl ?_)
  refine s_no0.call [60, 61, 62, 63, 64, 65, 66] 67 rfl rfl (by decide) rfl (pgK_60 _ 67).symm ?_
  rw [pgK_60]
  repeat (first | refine BCase.yes rfl ?_ | refine BCase.no rfl ?_)
  rfl
end Go.Cx
