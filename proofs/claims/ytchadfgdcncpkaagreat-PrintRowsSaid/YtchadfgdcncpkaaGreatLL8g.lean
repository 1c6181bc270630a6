/- What functions of this seat compute, each for every argument of the shapes that are named; no condition beside the stated ones. -/
import Derived.Test.YtchadfgdcncpkaaGreatLK9g
namespace Go.Cx
open Go.Proofs Go.Row
set_option maxRecDepth 100000
set_option maxHeartbeats 32000000
/-! ### The closed statement: its parts -/
theorem newN_pw (n C most : Nat) (hm : mayB (n + 1 : Nat) C = true) (hmo : most ≤ 1000) : PW most (newP n C 0 most) := newP_pw n C hm (Int.le_refl _) (by decide) most hmo
theorem PW.text {m : Nat} {p : Pg} (h : PW m p) (s : ByteArray) (hr : ((decodeS [s]).all fun r => decide (-2147483648 ≤ r)) = true) : PW m (runesS p 0 (decodeS [s])) :=
  h.runes (Int.le_refl _) (by decide) fun r hm => of_decide_eq_true (List.all_eq_true.1 hr r hm)
theorem text1 {p : Pg} (h : p.good) (s : ByteArray) (hs : s.size < 100000) : Eff Tryz.prog 12 [.ptr 0 0, .int .u8 0, .psl 1 [[.str s]] .exact] (pgB p) (pgB (runesS p 0 (decodeS [s]))) (.int .i64 (countR (decodeS [s]))) :=
  pText p h 0 [s] (by show 1 < 100000; decide) (by
    show ((s.data.toList ++ []).length) < 1000000
    rw [List.append_nil, show s.data.toList.length = s.size from Array.length_toList]; omega)
def wi0' : Pg := newP 3 2 0 9
def wi1 : Pg := pMarginsS wi0' 2 3
def wi2 : Pg := { wi1 with c := withinS wi1.a ⟨1, 0, false, 0⟩ }
def wi3 : Pg := runesS wi2 0 (decodeS [⟨#[97, 98, 99, 100, 101, 102]⟩])
theorem wi0_pw : PW 9 wi0' := newN_pw 3 2 9 rfl (by decide)
theorem wi1_pw : PW 9 wi1 := wi0_pw.margins 2 3
theorem wi2_pw : PW 9 wi2 := wi1_pw.place fun h => by cases h
theorem wi3_pw : PW 9 wi3 := wi2_pw.text _ (by kernel_rfl)
def rw2 (a b : Int) : List Cl := [clA a, clA b]
theorem wi3_rows : (shG wi3).rows = [rw2 0 0, rw2 99 100, rw2 101 102, rw2 0 0] := by kernel_rfl
theorem wi3_ring : rgI wi3.r = .iptr [.nils, .int .i64 0, .int .i64 9, .int .u8 0] ∧ wi3.r.lines.length = 0 := ⟨by kernel_rfl, by kernel_rfl⟩
theorem within19 : Fn Tryz.prog 21 [] (.bool true) := by
  have e0 := pNew 3 2 rfl 0 (Int.le_refl _) (by decide) 9 (by decide)
  change Eff _ _ _ _ (pgB wi0') _ at e0
  have e1 := pMargins wi0' wi0_pw.i.ok wi0_pw.i.a 2 3
  change Eff _ _ _ _ (pgB wi1) (.bool true) at e1
  have e2 := pPlace wi1 wi1_pw.i.ok wi1_pw.i.a ⟨1, 0, false, 0⟩
  change Eff _ _ _ _ (pgB wi2) _ at e2
  have e3 := text1 wi2_pw.i.good ⟨#[97, 98, 99, 100, 101, 102]⟩ (by decide)
  change Eff _ _ _ _ (pgB wi3) _ at e3
  have ok := wi3_pw.i.ok
  have e4 := pShownL wi3 ok wi3_pw.i.good.g
  rw [wi3_rows] at e4
  have e5 := pLines wi3 ok
  have e6 := iLen wi3.r
  rw [wi3_ring.1] at e5 e6
  rw [wi3_ring.2] at e6
  generalize wi0' = p0 at e0 e1
  generalize wi1 = p1 at e1 e2
  generalize wi2 = p2 at e2 e3
  generalize wi3 = p3 at e3 e4 e5 e6
  refine Fn.of_body tysOk md0 Tryz.func21 rfl rfl rfl rfl ?_
  refine e0.call [] 0 rfl rfl (by decide) rfl rfl ?_
  rw [pgB_new]
  refine e1.here rfl [] rfl ?_
  refine e2.here rfl [] rfl ?_
  refine e3.here rfl [] rfl ?_
  refine e4.here rfl [] rfl ?_
  repeat (first | refine BCase.yes rfl ?_ | refine BCase.no rfl ?_)
  refine ⟨_, ⟨by decide, rfl⟩, gdP rfl ?_⟩
  repeat (first | refine BCase.yes rfl ?_ | refine BCase.no rfl ?_)
  refine (rText (rw2 0 0) (by decide)).sem _ ?_
  repeat (first | refine BCase.yes rfl ?_ | refine BCase.no rfl ?_)
  refine ⟨_, ⟨by decide, rfl⟩, gdP rfl ?_⟩
  repeat (first | refine BCase.yes rfl ?_ | refine BCase.no rfl ?_)
  refine (rText (rw2 99 100) (by decide)).sem _ ?_
  repeat (first | refine BCase.yes rfl ?_ | refine BCase.no rfl ?_)
  refine ⟨_, ⟨by decide, rfl⟩, gdP rfl ?_⟩
  repeat (first | refine BCase.yes rfl ?_ | refine BCase.no rfl ?_)
  refine (rText (rw2 101 102) (by decide)).sem _ ?_
  repeat (first | refine BCase.yes rfl ?_ | refine BCase.no rfl ?_)
  refine ⟨_, ⟨by decide, rfl⟩, gdP rfl ?_⟩
  repeat (first | refine BCase.yes rfl ?_ | refine BCase.no rfl ?_)
  refine (rText (rw2 0 0) (by decide)).sem _ ?_
  repeat (first | refine BCase.yes rfl ?_ | refine BCase.no rfl ?_)
  refine e5.here rfl [] rfl ?_
  repeat (first | refine BCase.yes rfl ?_ | refine BCase.no rfl ?_)
  refine e6.sem _ ?_
  repeat (first | refine BCase.yes rfl ?_ | refine BCase.no rfl ?_)
  rfl
end Go.Cx
namespace Go.Cx
open Go.Proofs Go.Row
set_option maxRecDepth 100000
set_option maxHeartbeats 64000000
theorem prS_pw (s : ByteArray) (hr : ((decodeS [s]).all fun r => decide (-2147483648 ≤ r)) = true) : PW 3 (prS s) := (newN_pw 1 4 3 rfl (by decide)).text s hr
def modeP (p : Pg) (on : Bool) (x : Md) : Pg := pModeS p on x
def placeP (p : Pg) (c : Cu) : Pg := { p with c := withinS p.a c }
def textP (p : Pg) (s : ByteArray) : Pg := runesS p 0 (decodeS [s])
def in0 : Pg := prS ⟨#[97, 98, 99]⟩
theorem in0_pw : PW 3 in0 := prS_pw _ (by kernel_rfl)
def in1 : Pg := modeP in0 true ⟨false, 4⟩
theorem in1_pw : PW 3 in1 := show PW 3 (pModeS in0 true ⟨false, 4⟩) from in0_pw.mode _ _
def in2 : Pg := placeP in1 ⟨0, 1, false, 0⟩
theorem in2_pw : PW 3 in2 := in1_pw.place fun h => by cases h
def in3 : Pg := textP in2 ⟨#[228, 184, 173]⟩
theorem in3_pw : PW 3 in3 := in2_pw.text _ (by kernel_rfl)
def of0 : Pg := prS ⟨#[]⟩
theorem of0_pw : PW 3 of0 := prS_pw _ (by kernel_rfl)
def of1 : Pg := modeP of0 false ⟨true, 7⟩
theorem of1_pw : PW 3 of1 := show PW 3 (pModeS of0 false ⟨true, 7⟩) from of0_pw.mode _ _
def of2 : Pg := textP of1 ⟨#[97, 98, 99, 100, 101, 102, 103]⟩
theorem of2_pw : PW 3 of2 := of1_pw.text _ (by kernel_rfl)
def wd2 : Pg := textP of1 ⟨#[97, 98, 99, 100, 228, 184, 173]⟩
theorem wd2_pw : PW 3 wd2 := of1_pw.text _ (by kernel_rfl)
def on0 : Pg := newP 1 1 0 0
theorem on0_pw : PW 0 on0 := newN_pw 1 1 0 rfl (by decide)
def on1 : Pg := textP on0 ⟨#[228, 184, 173, 98]⟩
theorem on1_pw : PW 0 on1 := on0_pw.text _ (by kernel_rfl)
def mk0 : Pg := prS ⟨#[97, 204, 128, 204, 129, 204, 130]⟩
theorem mk0_pw : PW 3 mk0 := prS_pw _ (by kernel_rfl)
def fu0 : Pg := prS ⟨#[97, 98, 99, 100, 204, 128]⟩
theorem fu0_pw : PW 3 fu0 := prS_pw _ (by kernel_rfl)
def ha0 : Pg := prS ⟨#[228, 184, 173, 204, 128]⟩
theorem ha0_pw : PW 3 ha0 := prS_pw _ (by kernel_rfl)
def hi0 : Pg := prS ⟨#[97, 98]⟩
theorem hi0_pw : PW 3 hi0 := prS_pw _ (by kernel_rfl)
def hi1 : Pg := runeS hi0 99 1
theorem hi1_pw : PW 3 hi1 := hi0_pw.rune (by decide) (by decide) (by decide)
def no0 : Pg := prS ⟨#[204, 129, 7]⟩
theorem no0_pw : PW 3 no0 := prS_pw _ (by kernel_rfl)
theorem in3_sh : Shown in3 ⟨#[97, 228, 184, 173, 98]⟩ ⟨#[32, 32, 32, 32]⟩ ⟨0, 3, false, 0⟩ := ⟨in3_pw.i.good, by kernel_rfl, by kernel_rfl⟩
theorem of2_sh : Shown of2 ⟨#[97, 98, 99, 103]⟩ ⟨#[32, 32, 32, 32]⟩ ⟨0, 3, true, 0⟩ := ⟨of2_pw.i.good, by kernel_rfl, by kernel_rfl⟩
theorem wd2_sh : Shown wd2 ⟨#[97, 98, 228, 184, 173]⟩ ⟨#[32, 32, 32, 32]⟩ ⟨0, 3, true, 0⟩ := ⟨wd2_pw.i.good, by kernel_rfl, by kernel_rfl⟩
theorem on1_sh : Shown on1 ⟨#[239, 191, 189]⟩ ⟨#[98]⟩ ⟨1, 0, true, 0⟩ := ⟨on1_pw.i.good, by kernel_rfl, by kernel_rfl⟩
theorem no0_sh : Shown no0 ⟨#[32, 32, 32, 32]⟩ ⟨#[32, 32, 32, 32]⟩ ⟨0, 0, false, 0⟩ := ⟨no0_pw.i.good, by kernel_rfl, by kernel_rfl⟩
theorem on1_last : on1.last = 98 ∧ on1.known = 0 := ⟨by kernel_rfl, by kernel_rfl⟩
theorem mk0_m : (cellAt (shG mk0) 0 0).m0 = 768 ∧ (cellAt (shG mk0) 0 0).m1 = 769 := ⟨by kernel_rfl, by kernel_rfl⟩
theorem fu0_m : (cellAt (shG fu0) 0 3).m0 = 768 := by kernel_rfl
theorem ha0_m : (cellAt (shG ha0) 0 0).m0 = 768 := by kernel_rfl
theorem hi1_l : (cellAt (shG hi1) 1 3).lab = 1 ∧ hi1.known = 1 ∧ hi1.c.lab = 1 := ⟨by kernel_rfl, by kernel_rfl, by kernel_rfl⟩
theorem hi1_ring : rgI hi1.r = .iptr [.nils, .int .i64 0, .int .i64 3, .int .u8 1] ∧ hi1.r.lab = 1 := ⟨by kernel_rfl, by kernel_rfl⟩
theorem mk0_sz : (shG mk0).rows.length = 2 ∧ (shG mk0).cols = 4 := ⟨by kernel_rfl, by kernel_rfl⟩
theorem fu0_sz : (shG fu0).rows.length = 2 ∧ (shG fu0).cols = 4 := ⟨by kernel_rfl, by kernel_rfl⟩
theorem ha0_sz : (shG ha0).rows.length = 2 ∧ (shG ha0).cols = 4 := ⟨by kernel_rfl, by kernel_rfl⟩
theorem hi1_sz : (shG hi1).rows.length = 2 ∧ (shG hi1).cols = 4 := ⟨by kernel_rfl, by kernel_rfl⟩
theorem runeNil (r l : Int) : Fn Tryz.prog 26 [.nilp, .int .i32 r, .int .u8 l] (.bool false) := by
  refine Fn.of_body tysOk md0 Tryz.func26 rfl rfl rfl rfl ?_
  refine (wOfF r).sem _ ?_
  repeat (first | refine BCase.yes rfl ?_ | refine BCase.no rfl ?_)
  rfl
theorem repeatNil (n l : Int) : Fn Tryz.prog 29 [.nilp, .int .i64 n, .int .u8 l] (.int .i64 0) := by
  refine Fn.of_body tysOk md0 Tryz.func29 rfl rfl rfl rfl ?_
  repeat (first | refine BCase.yes rfl ?_ | refine BCase.no rfl ?_)
  rfl
theorem textNil : Fn Tryz.prog 12 [.nilp, .int .u8 0, .psl 1 [[.str ⟨#[97]⟩]] .exact] (.int .i64 0) := Fn.of_val fOk (noNE_ok _) tysOk mixed (fun _ _ => false) 10000 20 rfl rfl (by kernel_rfl)
theorem pgK_0 (p : Pg) (n : Nat) : (hpOf (pgB p)).map (Blk.mv (iot [0, 1, 2, 3, 4, 5, 6] n)) = pgAt 0 p := pgB_mvG p _ 0 rfl rfl rfl rfl rfl rfl
theorem pgK_7 (p : Pg) (n : Nat) : (hpOf (pgB p)).map (Blk.mv (iot [7, 8, 9, 10, 11, 12, 13] n)) = pgAt 7 p := pgB_mvG p _ 7 rfl rfl rfl rfl rfl rfl
theorem pgK_14 (p : Pg) (n : Nat) : (hpOf (pgB p)).map (Blk.mv (iot [14, 15, 16, 17, 18, 19, 20] n)) = pgAt 14 p := pgB_mvG p _ 14 rfl rfl rfl rfl rfl rfl
theorem pgK_21 (p : Pg) (n : Nat) : (hpOf (pgB p)).map (Blk.mv (iot [21, 22, 23, 24, 25, 26, 27] n)) = pgAt 21 p := pgB_mvG p _ 21 rfl rfl rfl rfl rfl rfl
theorem pgK_28 (p : Pg) (n : Nat) : (hpOf (pgB p)).map (Blk.mv (iot [28, 29, 30, 31, 32, 33, 34] n)) = pgAt 28 p := pgB_mvG p _ 28 rfl rfl rfl rfl rfl rfl
theorem pgK_36 (p : Pg) (n : Nat) : (hpOf (pgB p)).map (Blk.mv (iot [36, 37, 38, 39, 40, 41, 42] n)) = pgAt 36 p := pgB_mvG p _ 36 rfl rfl rfl rfl rfl rfl
theorem pgK_44 (p : Pg) (n : Nat) : (hpOf (pgB p)).map (Blk.mv (iot [44, 45, 46, 47, 48, 49, 50] n)) = pgAt 44 p := pgB_mvG p _ 44 rfl rfl rfl rfl rfl rfl
theorem pgK_52 (p : Pg) (n : Nat) : (hpOf (pgB p)).map (Blk.mv (iot [52, 53, 54, 55, 56, 57, 58] n)) = pgAt 52 p := pgB_mvG p _ 52 rfl rfl rfl rfl rfl rfl
theorem pgK_60 (p : Pg) (n : Nat) : (hpOf (pgB p)).map (Blk.mv (iot [60, 61, 62, 63, 64, 65, 66] n)) = pgAt 60 p := pgB_mvG p _ 60 rfl rfl rfl rfl rfl rfl
theorem known19 : Fn Tryz.prog 4 [] (.bool true) := by
  have e_in0 := printedF ⟨#[97, 98, 99]⟩ (by decide)
  change Eff _ _ _ _ (pgB in0) _ at e_in0
  have e_in1 := pMode in0 in0_pw.i.ok in0_pw.i.a true ⟨false, 4⟩
  change Eff _ _ _ _ (pgB in1) _ at e_in1
  have e_in2 := pPlace in1 in1_pw.i.ok in1_pw.i.a ⟨0, 1, false, 0⟩
  change Eff _ _ _ _ (pgB in2) _ at e_in2
  have e_in3 := text1 in2_pw.i.good ⟨#[228, 184, 173]⟩ (by decide)
  change Eff _ _ _ _ (pgB in3) _ at e_in3
  have e_of0 := printedF ⟨#[]⟩ (by decide)
  change Eff _ _ _ _ (pgB of0) _ at e_of0
  have e_of1 := pMode of0 of0_pw.i.ok of0_pw.i.a false ⟨true, 7⟩
  change Eff _ _ _ _ (pgB of1) _ at e_of1
  have e_of2 := text1 of1_pw.i.good ⟨#[97, 98, 99, 100, 101, 102, 103]⟩ (by decide)
  change Eff _ _ _ _ (pgB of2) _ at e_of2
  have e_wd2 := text1 of1_pw.i.good ⟨#[97, 98, 99, 100, 228, 184, 173]⟩ (by decide)
  change Eff _ _ _ _ (pgB wd2) _ at e_wd2
  have e_on0 := pNew 1 1 rfl 0 (Int.le_refl _) (by decide) 0 (by decide)
  change Eff _ _ _ _ (pgB on0) _ at e_on0
  have e_on1 := text1 on0_pw.i.good ⟨#[228, 184, 173, 98]⟩ (by decide)
  change Eff _ _ _ _ (pgB on1) _ at e_on1
  have l_on1 := pLast on1 on1_pw.i.ok
  rw [on1_last.1, on1_last.2] at l_on1
  have e_mk0 := printedF ⟨#[97, 204, 128, 204, 129, 204, 130]⟩ (by decide)
  change Eff _ _ _ _ (pgB mk0) _ at e_mk0
  have e_fu0 := printedF ⟨#[97, 98, 99, 100, 204, 128]⟩ (by decide)
  change Eff _ _ _ _ (pgB fu0) _ at e_fu0
  have e_ha0 := printedF ⟨#[228, 184, 173, 204, 128]⟩ (by decide)
  change Eff _ _ _ _ (pgB ha0) _ at e_ha0
  have e_hi0 := printedF ⟨#[97, 98]⟩ (by decide)
  change Eff _ _ _ _ (pgB hi0) _ at e_hi0
  have e_no0 := printedF ⟨#[204, 129, 7]⟩ (by decide)
  change Eff _ _ _ _ (pgB no0) _ at e_no0
  have a_mk0 := pAt mk0 mk0_pw.i.ok mk0_pw.i.sh.ok 0 0 (by rw [mk0_sz.1]; decide) (by rw [mk0_sz.2]; decide)
  obtain ⟨m_mk0, m_mk1⟩ := mk0_m
  generalize cellAt (shG mk0) 0 0 = c_mk0 at a_mk0 m_mk0 m_mk1
  have a_fu0 := pAt fu0 fu0_pw.i.ok fu0_pw.i.sh.ok 0 3 (by rw [fu0_sz.1]; decide) (by rw [fu0_sz.2]; decide)
  have m_fu0 := fu0_m
  generalize cellAt (shG fu0) 0 3 = c_fu0 at a_fu0 m_fu0
  have a_ha0 := pAt ha0 ha0_pw.i.ok ha0_pw.i.sh.ok 0 0 (by rw [ha0_sz.1]; decide) (by rw [ha0_sz.2]; decide)
  have m_ha0 := ha0_m
  generalize cellAt (shG ha0) 0 0 = c_ha0 at a_ha0 m_ha0
  have e_hi1 := pRune hi0 hi0_pw.i.good 99 1
  change Eff _ _ _ _ (pgB hi1) _ at e_hi1
  have a_hi1 := pAt hi1 hi1_pw.i.ok hi1_pw.i.sh.ok 1 3 (by rw [hi1_sz.1]; decide) (by rw [hi1_sz.2]; decide)
  obtain ⟨m_hi1, k_hi1, d_hi1⟩ := hi1_l
  generalize cellAt (shG hi1) 1 3 = c_hi1 at a_hi1 m_hi1
  have l_hi1 := pLast hi1 hi1_pw.i.ok
  have cu_hi1 := pCursor hi1 hi1_pw.i.ok
  have ri_hi1 := pLines hi1 hi1_pw.i.ok
  have rl_hi1 := iLabel hi1.r
  rw [hi1_ring.1] at ri_hi1 rl_hi1
  rw [hi1_ring.2] at rl_hi1
  have s_in3 := showsF in3_sh
  have s_of2 := showsF of2_sh
  have s_wd2 := showsF wd2_sh
  have s_on1 := showsF on1_sh
  have s_no0 := showsF no0_sh
  generalize in0 = q_in0 at *
  generalize in1 = q_in1 at *
  generalize in2 = q_in2 at *
  generalize in3 = q_in3 at *
  generalize of0 = q_of0 at *
  generalize of1 = q_of1 at *
  generalize of2 = q_of2 at *
  generalize wd2 = q_wd2 at *
  generalize on0 = q_on0 at *
  generalize on1 = q_on1 at *
  generalize mk0 = q_mk0 at *
  generalize fu0 = q_fu0 at *
  generalize ha0 = q_ha0 at *
  generalize hi0 = q_hi0 at *
  generalize hi1 = q_hi1 at *
  generalize no0 = q_no0 at *
  refine Fn.of_body tysOk md0 Tryz.func4 rfl rfl rfl rfl ?_
  refine within19.sem _ ?_
  refine e_in0.call [] 0 rfl rfl (by decide) rfl rfl ?_
  rw [pgB_new]
  refine e_in1.call [0, 1, 2, 3, 4, 5, 6] 7 rfl rfl (by decide) rfl (pgK_0 _ 7).symm ?_
  rw [pgK_0]
  refine e_in2.call [0, 1, 2, 3, 4, 5, 6] 7 rfl rfl (by decide) rfl (pgK_0 _ 7).symm ?_
  rw [pgK_0]
  refine e_in3.call [0, 1, 2, 3, 4, 5, 6] 7 rfl rfl (by decide) rfl (pgK_0 _ 7).symm ?_
  rw [pgK_0]
  refine e_of0.call [] 7 rfl rfl (by decide) rfl rfl ?_
  rw [pgB_new]
  refine e_of1.call [7, 8, 9, 10, 11, 12, 13] 14 rfl rfl (by decide) rfl (pgK_7 _ 14).symm ?_
  rw [pgK_7]
  refine e_of2.call [7, 8, 9, 10, 11, 12, 13] 14 rfl rfl (by decide) rfl (pgK_7 _ 14).symm ?_
  rw [pgK_7]
  refine e_of0.call [] 14 rfl rfl (by decide) rfl rfl ?_
  rw [pgB_new]
  refine e_of1.call [14, 15, 16, 17, 18, 19, 20] 21 rfl rfl (by decide) rfl (pgK_14 _ 21).symm ?_
  rw [pgK_14]
  refine e_wd2.call [14, 15, 16, 17, 18, 19, 20] 21 rfl rfl (by decide) rfl (pgK_14 _ 21).symm ?_
  rw [pgK_14]
  refine e_on0.call [] 21 rfl rfl (by decide) rfl rfl ?_
  rw [pgB_new]
  refine e_on1.call [21, 22, 23, 24, 25, 26, 27] 28 rfl rfl (by decide) rfl (pgK_21 _ 28).symm ?_
  rw [pgK_21]
  refine l_on1.call [21, 22, 23, 24, 25, 26, 27] 28 rfl rfl (by decide) rfl (pgK_21 _ 28).symm ?_
  rw [pgK_21]
  refine e_mk0.call [] 28 rfl rfl (by decide) rfl rfl ?_
  rw [pgB_new]
  refine a_mk0.call [28, 29, 30, 31, 32, 33, 34] 35 rfl rfl (by decide) rfl (pgK_28 _ 35).symm ?_
  rw [pgK_28]
  refine e_fu0.call [] 36 rfl rfl (by decide) rfl rfl ?_
  rw [pgB_new]
  refine a_fu0.call [36, 37, 38, 39, 40, 41, 42] 43 rfl rfl (by decide) rfl (pgK_36 _ 43).symm ?_
  rw [pgK_36]
  refine e_ha0.call [] 44 rfl rfl (by decide) rfl rfl ?_
  rw [pgB_new]
  refine a_ha0.call [44, 45, 46, 47, 48, 49, 50] 51 rfl rfl (by decide) rfl (pgK_44 _ 51).symm ?_
  rw [pgK_44]
  refine e_hi0.call [] 52 rfl rfl (by decide) rfl rfl ?_
  rw [pgB_new]
  refine e_hi1.call [52, 53, 54, 55, 56, 57, 58] 59 rfl rfl (by decide) rfl (pgK_52 _ 59).symm ?_
  rw [pgK_52]
  refine a_hi1.call [52, 53, 54, 55, 56, 57, 58] 59 rfl rfl (by decide) rfl (pgK_52 _ 59).symm ?_
  rw [pgK_52]
  refine l_hi1.call [52, 53, 54, 55, 56, 57, 58] 60 rfl rfl (by decide) rfl (pgK_52 _ 60).symm ?_
  rw [pgK_52]
  repeat (first | refine BCase.yes rfl ?_ | refine BCase.no rfl ?_)
  refine works19.sem _ ?_
  repeat (first | refine BCase.yes rfl ?_ | refine BCase.no rfl ?_)
  refine s_in3.call [0, 1, 2, 3, 4, 5, 6] 60 rfl rfl (by decide) rfl (pgK_0 _ 60).symm ?_
  rw [pgK_0]
  repeat (first | refine BCase.yes rfl ?_ | refine BCase.no rfl ?_)
  refine s_of2.call [7, 8, 9, 10, 11, 12, 13] 60 rfl rfl (by decide) rfl (pgK_7 _ 60).symm ?_
  rw [pgK_7]
  repeat (first | refine BCase.yes rfl ?_ | refine BCase.no rfl ?_)
  refine s_wd2.call [14, 15, 16, 17, 18, 19, 20] 60 rfl rfl (by decide) rfl (pgK_14 _ 60).symm ?_
  rw [pgK_14]
  repeat (first | refine BCase.yes rfl ?_ | refine BCase.no rfl ?_)
  refine s_on1.call [21, 22, 23, 24, 25, 26, 27] 60 rfl rfl (by decide) rfl (pgK_21 _ 60).symm ?_
  rw [pgK_21]
  repeat (first | refine BCase.yes rfl ?_ | refine BCase.no rfl ?_)
  refine BCase.yes (show (c_mk0.m0 == 768 && (c_mk0.m1 == 769 && true)) = true by rw [m_mk0, m_mk1]; rfl) ?_
  repeat (first | refine BCase.yes rfl ?_ | refine BCase.no rfl ?_)
  refine BCase.yes (beqT m_fu0) ?_
  repeat (first | refine BCase.yes rfl ?_ | refine BCase.no rfl ?_)
  refine BCase.yes (beqT m_ha0) ?_
  repeat (first | refine BCase.yes rfl ?_ | refine BCase.no rfl ?_)
  refine BCase.yes (beqT m_hi1) ?_
  repeat (first | refine BCase.yes rfl ?_ | refine BCase.no rfl ?_)
  refine BCase.yes (beqT k_hi1) ?_
  repeat (first | refine BCase.yes rfl ?_ | refine BCase.no rfl ?_)
  refine cu_hi1.call [52, 53, 54, 55, 56, 57, 58] 60 rfl rfl (by decide) rfl (pgK_52 _ 60).symm ?_
  rw [pgK_52]
  repeat (first | refine BCase.yes rfl ?_ | refine BCase.no rfl ?_)
  refine BCase.yes (beqT d_hi1) ?_
  repeat (first | refine BCase.yes rfl ?_ | refine BCase.no rfl ?_)
  refine ri_hi1.call [52, 53, 54, 55, 56, 57, 58] 60 rfl rfl (by decide) rfl (pgK_52 _ 60).symm ?_
  rw [pgK_52]
  repeat (first | refine BCase.yes rfl ?_ | refine BCase.no rfl ?_)
  refine rl_hi1.sem _ ?_
  repeat (first | refine BCase.yes rfl ?_ | refine BCase.no rfl ?_)
  refine (runeNil 97 0).sem _ ?_
  repeat (first | refine BCase.yes rfl ?_ | refine BCase.no rfl ?_)
  refine textNil.sem _ ?_
  repeat (first | refine BCase.yes rfl ?_ | refine BCase.no rfl ?_)
  refine (repeatNil 3 0).sem _ ?_
  repeat (first | refine BCase.yes rfl ?_ | refine BCase.no rfl ?_)
  refine e_no0.call [] 60 rfl rfl (by decide) rfl rfl ?_
  rw [pgB_new]
  repeat (first | refine BCase.yes rfl ?_ | refine BCase.no rfl ?_)
  refine s_no0.call [60, 61, 62, 63, 64, 65, 66] 67 rfl rfl (by decide) rfl (pgK_60 _ 67).symm ?_
  rw [pgK_60]
  repeat (first | refine BCase.yes rfl ?_ | refine BCase.no rfl ?_)
  rfl
end Go.Cx
namespace Go.Cx
open Go.Proofs Go.Row
set_option maxRecDepth 100000
set_option maxHeartbeats 8000000
/-! ### Letters, row by row: the plain law -/
def rowOf (C : Nat) (f : Nat → Cl) (i : Nat) : List Cl := (List.range C).map fun j => f (i * C + j)
def rowsOf (R C : Nat) (f : Nat → Cl) : List (List Cl) := (List.range R).map (rowOf C f)
theorem rowOf_len (C : Nat) (f : Nat → Cl) (i : Nat) : (rowOf C f i).length = C := by simp [rowOf]
theorem rowsOf_len (R C : Nat) (f : Nat → Cl) : (rowsOf R C f).length = R := by simp [rowsOf]
theorem rowsOf_get {R C : Nat} {f : Nat → Cl} {i : Nat} (h : i < R) : (rowsOf R C f)[i]? = some (rowOf C f i) := by simp [rowsOf, h]
theorem rowOf_get {C : Nat} {f : Nat → Cl} {i j : Nat} (h : j < C) : (rowOf C f i)[j]? = some (f (i * C + j)) := by simp [rowOf, h]
def updF (f : Nat → Cl) (k : Nat) (c : Cl) : Nat → Cl := fun i => if i = k then c else f i
theorem idx_eq {C i j k : Nat} (hj : j < C) : i * C + j = k ↔ i = k / C ∧ j = k % C := by
  have hC : 0 < C := by omega
  constructor
  · rintro rfl
    refine ⟨?_, ?_⟩
    · rw [Nat.mul_comm, Nat.mul_add_div hC, Nat.div_eq_of_lt hj]; rfl
    · rw [Nat.mul_comm, Nat.mul_add_mod, Nat.mod_eq_of_lt hj]
  · rintro ⟨rfl, rfl⟩
    rw [Nat.mul_comm]; exact Nat.div_add_mod k C
theorem rowOf_set {C : Nat} (hC : 0 < C) (f : Nat → Cl) (k : Nat) (c : Cl) : (rowOf C f (k / C)).set (k % C) c = rowOf C (updF f k c) (k / C) := by
  apply List.ext_getElem?
  intro j
  rw [List.getElem?_set]
  by_cases hj : j < C
  · rw [rowOf_get hj, rowOf_get hj, rowOf_len]
    unfold updF
    by_cases h : k % C = j
    · rw [if_pos h, if_pos (Nat.mod_lt _ hC), if_pos ((idx_eq hj).2 ⟨rfl, h.symm⟩)]
    · rw [if_neg h, if_neg (fun e => h ((idx_eq hj).1 e).2.symm)]
  · have h1 : ¬ k % C = j := by have := Nat.mod_lt k hC; omega
    rw [if_neg h1, List.getElem?_eq_none (by rw [rowOf_len]; omega), List.getElem?_eq_none (by rw [rowOf_len]; omega)]
theorem rowsOf_set {R C : Nat} (hC : 0 < C) (f : Nat → Cl) {k : Nat} (hk : k / C < R) (c : Cl) : (rowsOf R C f).set (k / C) (rowOf C (updF f k c) (k / C)) = rowsOf R C (updF f k c) := by
  apply List.ext_getElem?
  intro i
  rw [List.getElem?_set, rowsOf_len]
  by_cases hi : i < R
  · rw [rowsOf_get hi, rowsOf_get hi]
    by_cases h : k / C = i
    · rw [if_pos h, if_pos hk, h]
    · rw [if_neg h]
      congr 1
      unfold rowOf
      apply List.map_congr_left
      intro j hj
      have hj := List.mem_range.1 hj
      unfold updF
      rw [if_neg (fun e => h ((idx_eq hj).1 e).1.symm)]
  · rw [if_neg (by omega), List.getElem?_eq_none (by rw [rowsOf_len]; omega), List.getElem?_eq_none (by rw [rowsOf_len]; omega)]
theorem rowsOf_map (R C : Nat) (f : Nat → Cl) (g : Cl → Cl) : (rowsOf R C f).map (fun r => r.map g) = rowsOf R C fun i => g (f i) := by
  unfold rowsOf rowOf
  rw [List.map_map]
  apply List.map_congr_left
  intro i _
  show List.map g (List.map _ _) = _
  rw [List.map_map]; rfl
theorem rowsOf_const (R C : Nat) (b : Cl) : List.replicate R (List.replicate C b) = rowsOf R C fun _ => b := by
  apply List.ext_getElem
  · simp [rowsOf]
  · intro i h1 h2
    simp only [List.getElem_replicate, rowsOf, List.getElem_map, List.getElem_range, rowOf]
    apply List.ext_getElem <;> simp
/-- A cell put in a row without wide ones. -/
theorem whole0 {r : List Cl} (h : ∀ c ∈ r, c.kind = 0) (i : Nat) : brk r i = r := brk_no (.all fun c hc => h c (List.mem_of_mem_take hc))
theorem rputI_set {r : List Cl} (h : ∀ c ∈ r, c.kind = 0) {j : Nat} (hj : j < r.length) (c : Cl) (hc : c.kind = 0) : rputI r (j : Int) c false = r.set j c := by
  have hc' : ({ c with kind := 0 } : Cl) = c := by obtain ⟨_, _, _, k, _, _⟩ := c; simp only at hc; subst hc; rfl
  unfold rputI
  rw [if_neg (by omega), Int.toNat_natCast]
  unfold rput
  have hcl : cells c false = [c] := by show [({ c with kind := 0 } : Cl)] = [c]; rw [hc']
  rw [hcl, if_pos (by show j + 1 ≤ r.length; omega)]
  unfold over b2
  rw [whole0 h, whole0 h, List.set_eq_take_append_cons_drop, if_pos hj]
  simp
def cellF (L : Nat → Int) (A : At) (x : Int) (k : Nat) : Nat → Cl := fun i => if i < k then ⟨L i, 0, 0, 0, A, x⟩ else zB x
theorem cellF_upd (L : Nat → Int) (A : At) (x : Int) (k : Nat) : updF (cellF L A x k) k ⟨L k, 0, 0, 0, A, x⟩ = cellF L A x (k + 1) := by
  funext i
  unfold updF cellF
  by_cases h : i = k
  · subst h; rw [if_pos rfl, if_pos (by omega)]
  · rw [if_neg h]
    by_cases h2 : i < k
    · rw [if_pos h2, if_pos (by omega)]
    · rw [if_neg h2, if_neg (by omega)]
theorem cellF_kind (L : Nat → Int) (A : At) (x : Int) (k i : Nat) : (cellF L A x k i).kind = 0 := by unfold cellF; split <;> rfl
def curK (C : Nat) (x : Int) (k : Nat) : Cu := if k = 0 then ⟨0, 0, false, x⟩ else ⟨((k - 1) / C : Nat), if (k - 1) % C = C - 1 then (C - 1 : Nat) else ((k - 1) % C + 1 : Nat), decide ((k - 1) % C = C - 1), x⟩
structure St (R C : Nat) (b : Int) (A : At) (L : Nat → Int) (x : Int) (k : Nat) (p : Pg) : Prop where
  a : p.a = ⟨R, C, 0, (R : Int) - 1, false, b⟩
  m : p.m = 96#16
  at_ : p.at_ = A
  rows : p.g0.rows = rowsOf R C (cellF L A x k)
  cols : p.g0.cols = C
  c : p.c = curK C x k
  lines : p.r.lines = []
  good : p.good
theorem m47 : isOf 96#16 ⟨true, 47⟩ = false := by decide
theorem m7 : isOf 96#16 ⟨true, 7⟩ = true := by decide
theorem m4 : isOf 96#16 ⟨false, 4⟩ = false := by decide
theorem St.shG {R C : Nat} {b : Int} {A : At} {L : Nat → Int} {x : Int} {k : Nat} {p : Pg} (h : St R C b A L x k p) : shG p = p.g0 := by unfold Cx.shG; rw [h.m, m47]; rfl
theorem St.setG {R C : Nat} {b : Int} {A : At} {L : Nat → Int} {x : Int} {k : Nat} {p : Pg} (h : St R C b A L x k p) (g : Gr) : setG p g = { p with g0 := g } := by unfold Cx.setG; rw [h.m, m47]; rfl
theorem join2_v {a b : Int} (h0 : 0 ≤ a) (h1 : a ≤ 1) (h2 : 0 ≤ b) (h3 : b ≤ 1) : join2 a b = max a b := by unfold join2; split <;> omega
theorem St.touch {R C : Nat} {b : Int} {A : At} {L : Nat → Int} {x : Int} {k : Nat} {p : Pg} (h : St R C b A L x k p) (hb0 : 0 ≤ b) (hb1 : b ≤ 1) (hx : b ≤ x) (hx1 : x ≤ 1) {y : Int} (hy0 : 0 ≤ y) (hy1 : y ≤ 1) : St R C b A L (max x y) k (touchS p y) := by
  have hlab : p.c.lab = x := by rw [h.c]; unfold curK; split <;> rfl
  have e : join2 p.c.lab y = max x y := by rw [hlab, join2_v (by omega) hx1 hy0 hy1]
  have hg := (h.good.inv.touch y fun _ _ _ => trivial).good
  unfold touchS at hg ⊢
  rw [e] at hg ⊢
  by_cases hf : flowsB (max x y) p.a.base = true
  · rw [if_pos hf]
    have hbase : p.a.base = b := by rw [h.a]
    rw [hbase] at hf
    have hf := of_decide_eq_true hf
    have : max x y = x := by
      rw [join2_v (by omega) (by omega) hb0 hb1] at hf
      split at hf <;> omega
    rw [this]
    exact h
  · rw [if_neg hf] at hg ⊢
    rw [h.setG, h.shG] at hg ⊢
    have e2 : join2 p.c.lab (max x y) = max x y := by rw [hlab, join2_v (by omega) hx1 (by omega) (by omega)]; omega
    refine ⟨h.a, h.m, h.at_, ?_, h.cols, ?_, ?_, hg⟩
    · show (p.g0.rows).map (fun r => raiseR r (max x y)) = _
      rw [h.rows]
      unfold raiseR
      rw [rowsOf_map]
      congr 1
      funext i
      have ej : join2 x (max x y) = max x y := by rw [join2_v (by omega) hx1 (by omega) (by omega)]; omega
      unfold cellF relabel
      split
      · show (⟨L i, 0, 0, 0, A, join2 x (max x y)⟩ : Cl) = _
        rw [ej]
      · show (⟨0, 0, 0, 0, ⟨0, 0, 0, 0, 0, 0, 0, 0, 0⟩, join2 x (max x y)⟩ : Cl) = _
        rw [ej]; rfl
    · show labS p.c _ = _
      rw [e2, h.c]
      unfold labS curK
      split <;> rfl
    · exact h.lines
end Go.Cx
namespace Go.Cx
open Go.Proofs Go.Row
set_option maxRecDepth 100000
set_option maxHeartbeats 8000000
theorem wi_in {n l m : Int} (h0 : l ≤ n) (h1 : n ≤ m) : wi n l m = n := by unfold wi; omega
theorem div_step {C k : Nat} (hC : 0 < C) (hk : 0 < k) : (if (k - 1) % C = C - 1 then (k / C = (k - 1) / C + 1 ∧ k % C = 0) else (k / C = (k - 1) / C ∧ k % C = (k - 1) % C + 1)) := by
  have hlt := Nat.mod_lt (k - 1) hC
  have hd := Nat.div_add_mod (k - 1) C
  by_cases h : (k - 1) % C = C - 1
  · rw [if_pos h]
    have e : k = ((k - 1) / C + 1) * C + 0 := by
      rw [Nat.add_mul, Nat.one_mul, Nat.mul_comm ((k - 1) / C)]; omega
    have := (idx_eq (C := C) (i := (k - 1) / C + 1) (j := 0) (k := k) hC).1 e.symm
    exact ⟨this.1.symm, this.2.symm⟩
  · rw [if_neg h]
    have e : k = (k - 1) / C * C + ((k - 1) % C + 1) := by
      rw [Nat.mul_comm]; omega
    have := (idx_eq (C := C) (i := (k - 1) / C) (j := (k - 1) % C + 1) (k := k) (by omega)).1 e.symm
    exact ⟨this.1.symm, this.2.symm⟩
theorem row_lt {R C k : Nat} (hk : k < R * C) : k / C < R := by
  rw [Nat.mul_comm] at hk
  exact Nat.div_lt_of_lt_mul hk
theorem step2_at {R C : Nat} {b x : Int} {A : At} {L : Nat → Int} {k : Nat} {p : Pg} (h : St R C b A L x k p) (hC : 1 ≤ C) (hb0 : 0 ≤ b) (hb1 : b ≤ 1) (hx : b ≤ x) (hx1 : x ≤ 1) (hk : k < R * C) : step2 p x true = { p with c := ⟨(k / C : Nat), (k % C : Nat), false, x⟩ } := by
  have hrow := row_lt hk
  have hmod := Nat.mod_lt k hC
  unfold step2
  by_cases h0 : k = 0
  · subst h0
    have hc := h.c
    unfold curK at hc
    rw [if_pos rfl] at hc
    rw [hc]
    simp only [Bool.false_and, Bool.false_eq_true, if_false]
    rw [Nat.zero_div, Nat.zero_mod, ← show p.c = ⟨((0 : Nat) : Int), ((0 : Nat) : Int), false, x⟩ from hc]
  · have hd := div_step hC (Nat.pos_of_ne_zero h0)
    have hc := h.c
    unfold curK at hc
    rw [if_neg h0] at hc
    by_cases hw : (k - 1) % C = C - 1
    · rw [if_pos hw] at hd hc
      rw [decide_eq_true hw] at hc
      rw [if_pos (by rw [hc]; rfl)]
      unfold nextS
      have hr1 : (k - 1) / C + 1 < R := by omega
      rw [if_neg (by rw [hc, h.a]; show ¬ (((k - 1) / C : Nat) : Int) = (R : Int) - 1; omega)]
      have e : withinS p.a ⟨(moveS p.a p.c 1 0).row, 0, false, p.c.lab⟩ = ⟨(k / C : Nat), (k % C : Nat), false, x⟩ := by
        rw [hc, h.a, hd.1, hd.2]
        have e1 : (moveS ⟨R, C, 0, (R : Int) - 1, false, b⟩ ⟨((k - 1) / C : Nat), (C - 1 : Nat), true, x⟩ 1 0).row = (((k - 1) / C + 1 : Nat) : Int) := by
          unfold moveS lastS
          rw [show wi 1 (-512) 512 = 1 by decide]
          simp only [gt_iff_lt, Int.zero_lt_one, if_true]
          split <;> omega
        have e2 : join2 x b = x := by rw [join2_v (by omega) hx1 hb0 hb1]; omega
        unfold withinS
        rw [e1]
        have e3 : wi (((k - 1) / C + 1 : Nat) : Int) 0 ((R : Int) - 1) = (((k - 1) / C + 1 : Nat) : Int) := by
          generalize (k - 1) / C = q at hr1
          exact wi_in (by omega) (by omega)
        have e4 : wi 0 0 ((C : Int) - 1) = 0 := wi_in (Int.le_refl _) (by omega)
        show (⟨wi (((k - 1) / C + 1 : Nat) : Int) 0 ((R : Int) - 1), wi 0 0 ((C : Int) - 1), false && _, join2 x b⟩ : Cu) = _
        rw [e3, e4, e2]; rfl
      rw [e]
    · rw [if_neg hw] at hd hc
      rw [decide_eq_false hw] at hc
      rw [if_neg (by rw [hc]; exact Bool.false_ne_true), hd.1, hd.2, ← hc]
theorem ready_at {R C : Nat} {b x : Int} {A : At} {L : Nat → Int} {k : Nat} {p : Pg} (h : St R C b A L x k p) (hC : 1 ≤ C) (hb0 : 0 ≤ b) (hb1 : b ≤ 1) (hx : b ≤ x) (hx1 : x ≤ 1) (hk : k < R * C) : readyS p 1 x = { p with c := ⟨(k / C : Nat), (k % C : Nat), false, x⟩ } := by
  have hwr : isOf p.m ⟨true, 7⟩ = true := by rw [h.m]; exact m7
  unfold readyS
  rw [hwr]
  simp only
  rw [step2_at h hC hb0 hb1 hx hx1 hk]
  have hl : ∀ q : Pg, lateB q 1 = false := fun q => rfl
  have h3 : ∀ q : Pg, step3 q 1 x true = q := fun q => by unfold step3; rw [hl]; rfl
  have h4 : ∀ q : Pg, step4 q 1 = q := fun q => by unfold step4; rw [hl]; rfl
  rw [h3, h4]
  unfold step5
  have hm : ¬ isOf p.m ⟨false, 4⟩ = true := by rw [h.m, m4]; exact Bool.false_ne_true
  exact if_neg hm
theorem St.rune {R C : Nat} {b x : Int} {A : At} {L : Nat → Int} {k : Nat} {p : Pg} (h : St R C b A L x k p) (hC : 1 ≤ C) (hb0 : 0 ≤ b) (hb1 : b ≤ 1) (hx : b ≤ x) (hx1 : x ≤ 1) {y : Int} (hy0 : 0 ≤ y) (hy1 : y ≤ 1) (hk : k < R * C) (hw : wOf (L k) = 1) : St R C b A L (max x y) (k + 1) (runeS p (L k) y) := by
  have hlab : p.c.lab = x := by rw [h.c]; unfold curK; split <;> rfl
  have e : join2 p.c.lab y = max x y := by rw [hlab, join2_v (by omega) hx1 hy0 hy1]
  have h1 := h.touch hb0 hb1 hx hx1 hy0 hy1
  have hgood := PgI_rune h.good (L k) y
  unfold runeS at hgood ⊢
  rw [hw, e] at hgood ⊢
  rw [if_neg (by decide)] at hgood ⊢
  simp only at hgood ⊢
  rw [if_neg (by decide)] at hgood ⊢
  generalize touchS p y = p1 at h1 hgood ⊢
  generalize hz : max x y = z at h1 hgood ⊢
  have hbz : b ≤ z := by omega
  have hz1 : z ≤ 1 := by omega
  have hpen : penR p1 (L k) 1 = (L k, 1) := by
    unfold penR
    rw [if_neg (by rw [h1.a]; show ¬ (1 : Int) > (C : Int); omega)]
  rw [hpen] at hgood ⊢
  simp only at hgood ⊢
  rw [ready_at h1 hC hb0 hb1 hbz hz1 hk] at hgood ⊢
  have hrow := row_lt hk
  have hmod := Nat.mod_lt k hC
  have ha := h1.a
  -- what is put
  have hq : ∀ q : Pg, q = { p1 with c := ⟨(k / C : Nat), (k % C : Nat), false, z⟩ } → putR q (L k) 1 z = { p1 with g0 := p1.g0.set (k / C) (rowOf C (cellF L A z (k + 1)) (k / C)), c := ⟨(k / C : Nat), if k % C = C - 1 then (C - 1 : Nat) else (k % C + 1 : Nat), decide (k % C = C - 1), z⟩ } := by
    rintro q rfl
    unfold putR
    have e1 : Cx.shG { p1 with c := ⟨(k / C : Nat), (k % C : Nat), false, z⟩ } = p1.g0 := by
      unfold Cx.shG
      show (if isOf p1.m ⟨true, 47⟩ = true then p1.g1 else p1.g0) = _
      rw [h1.m, m47]; rfl
    have e2 : ∀ g, Cx.setG { p1 with c := ⟨(k / C : Nat), (k % C : Nat), false, z⟩ } g = { p1 with c := ⟨(k / C : Nat), (k % C : Nat), false, z⟩, g0 := g } := fun g => by
      unfold Cx.setG
      show (if isOf p1.m ⟨true, 47⟩ = true then _ else _) = _
      rw [h1.m, m47]; rfl
    simp only
    rw [e1, e2]
    have hrg : p1.g0.rows[k / C]? = some (rowOf C (cellF L A z k) (k / C)) := by rw [h1.rows]; exact rowsOf_get hrow
    have e3 : atG p1.g0 (k / C : Nat) (k % C : Nat) (fun x => rputI x (k % C : Nat) ⟨L k, 0, 0, 0, p1.at_, z⟩ (decide ((1 : Int) > 1))) = p1.g0.set (k / C) (rowOf C (cellF L A z (k + 1)) (k / C)) := by
      unfold atG
      rw [if_pos ⟨⟨Int.natCast_nonneg _, by rw [h1.rows, rowsOf_len]; exact Int.ofNat_lt.2 hrow⟩, Int.natCast_nonneg _, by rw [h1.cols]; exact Int.ofNat_lt.2 hmod⟩, Int.toNat_natCast, hrg]
      simp only
      rw [h1.at_]
      have hk0 : ∀ c ∈ rowOf C (cellF L A z k) (k / C), c.kind = 0 := fun c hc => by
        unfold rowOf at hc
        obtain ⟨j, _, rfl⟩ := List.mem_map.1 hc
        exact cellF_kind _ _ _ _ _
      have : rputI (rowOf C (cellF L A z k) (k / C)) (k % C : Nat) ⟨L k, 0, 0, 0, A, z⟩ (decide ((1 : Int) > 1)) = (rowOf C (cellF L A z k) (k / C)).set (k % C) ⟨L k, 0, 0, 0, A, z⟩ :=
        rputI_set hk0 (by rw [rowOf_len]; exact hmod) _ rfl
      rw [this, rowOf_set hC, cellF_upd]
    show ({ p1 with g0 := _, c := _ } : Pg) = _
    rw [e3]
    have e4 : withinS p1.a ⟨(k / C : Nat), min (((k % C : Nat) : Int) + 1) (p1.a.cols - 1), decide (((k % C : Nat) : Int) + 1 > p1.a.cols - 1), z⟩ = ⟨(k / C : Nat), if k % C = C - 1 then (C - 1 : Nat) else (k % C + 1 : Nat), decide (k % C = C - 1), z⟩ := by
      rw [ha]
      generalize k / C = i at hrow ⊢
      generalize k % C = jj at hmod ⊢
      have j : join2 z b = z := by rw [join2_v (by omega) hz1 hb0 hb1]; omega
      unfold withinS
      show (⟨wi ((i : Nat) : Int) 0 ((R : Int) - 1), wi (min (((jj : Nat) : Int) + 1) ((C : Int) - 1)) 0 ((C : Int) - 1), decide (((jj : Nat) : Int) + 1 > (C : Int) - 1) && (wi ((i : Nat) : Int) 0 ((R : Int) - 1) == ((i : Nat) : Int) && wi (min (((jj : Nat) : Int) + 1) ((C : Int) - 1)) 0 ((C : Int) - 1) == min (((jj : Nat) : Int) + 1) ((C : Int) - 1)), join2 z b⟩ : Cu) = _
      rw [j, wi_in (n := ((i : Nat) : Int)) (by omega) (by omega), wi_in (n := min (((jj : Nat) : Int) + 1) ((C : Int) - 1)) (by omega) (by omega), beq_self_eq_true, beq_self_eq_true]
      by_cases hl : jj = C - 1
      · rw [if_pos hl, decide_eq_true hl, decide_eq_true (by omega), hl]
        congr 1
        omega
      · rw [if_neg hl, decide_eq_false hl, decide_eq_false (by omega)]
        congr 1
        omega
    rw [e4]
  rw [hq _ rfl] at hgood ⊢
  refine ⟨h1.a, h1.m, h1.at_, ?_, h1.cols, ?_, h1.lines, hgood⟩
  · show (p1.g0.rows).set (k / C) _ = _
    rw [h1.rows, ← cellF_upd L A z k]
    exact rowsOf_set hC _ hrow _
  · show (⟨_, _, _, _⟩ : Cu) = curK C z (k + 1)
    unfold curK
    rw [if_neg (show ¬ k + 1 = 0 by omega), Nat.add_sub_cancel]
end Go.Cx
namespace Go.Cx
open Go.Proofs Go.Row
set_option maxRecDepth 100000
set_option maxHeartbeats 8000000
/-! ### Letters as text -/
def ltrI (x : Int) : Int := IntKind.u8.wrap (97 + x.tmod 26)
theorem ltrI_v {x : Int} (h : u8r x) : ltrI x = 97 + x % 26 := by
  unfold ltrI
  rw [tm h.1]
  have h1 := Int.emod_nonneg x (show (26 : Int) ≠ 0 by decide)
  have h2 := Int.emod_lt_of_pos x (show (0 : Int) < 26 by decide)
  unfold IntKind.wrap
  simp [IntKind.bits, IntKind.signed]
  omega
theorem ltrI_rng {x : Int} (h : u8r x) : 97 ≤ ltrI x ∧ ltrI x ≤ 122 := by
  rw [ltrI_v h]
  have h1 := Int.emod_nonneg x (show (26 : Int) ≠ 0 by decide)
  have h2 := Int.emod_lt_of_pos x (show (0 : Int) < 26 by decide)
  omega
theorem wOf_letter {r : Int} (h1 : 97 ≤ r) (h2 : r ≤ 122) : wOf r = 1 := by
  obtain ⟨n, hn⟩ := Int.eq_ofNat_of_zero_le (show 0 ≤ r - 97 by omega)
  have h3 : n < 26 := by omega
  have : ∀ n : Fin 26, wOf (97 + (n.val : Int)) = 1 := by decide
  have := this ⟨n, h3⟩
  rwa [show r = 97 + (n : Int) by omega]
def oneB (x : Int) : ByteArray := ⟨[byteV (.int .u8 (ltrI x))].toArray⟩
def sB (l : List Int) : ByteArray := l.foldl (fun s x => s ++ oneB x) ⟨#[]⟩
theorem sB_snoc (l : List Int) (x : Int) : sB (l ++ [x]) = sB l ++ oneB x := by unfold sB; rw [List.foldl_append]; rfl
theorem sB_list (l : List Int) : (sB l).data.toList = l.map fun x => UInt8.ofNat (ltrI x).toNat := by
  have key : ∀ (l : List Int) (s : ByteArray), (l.foldl (fun s x => s ++ oneB x) s).data.toList = s.data.toList ++ l.map fun x => UInt8.ofNat (ltrI x).toNat := by
    intro l
    induction l with
    | nil => intro s; simp
    | cons x l ih =>
      intro s
      rw [List.foldl_cons, ih, List.map_cons]
      have : (s ++ oneB x).data.toList = s.data.toList ++ [UInt8.ofNat (ltrI x).toNat] := by
        rw [ByteArray.data_append, Array.toList_append]
        rfl
      rw [this, List.append_assoc]; rfl
  have := key l ⟨#[]⟩
  rw [List.nil_append] at this
  exact this
theorem sB_size (l : List Int) : (sB l).size = l.length := by
  have h1 : (sB l).data.toList.length = (sB l).size := Array.length_toList
  rw [← h1, sB_list]; simp
def letA (l : List Int) : Nat → Int := fun i => (l.map ltrI).getD i 0
theorem u8_back {n : Int} (h0 : 0 ≤ n) (h1 : n < 256) : ((UInt8.ofNat n.toNat).toNat : Int) = n := by
  rw [UInt8.toNat_ofNat']
  omega
/-- Bytes below 128 are runes. -/
theorem push_ascii {b : Int} (h0 : 0 ≤ b) (h1 : b < 128) : pushS dc0 b = (dc0, [b]) := by
  unfold pushS
  rw [if_pos rfl]
  unfold beginS
  rw [if_pos h1, wr32 (by omega) (by omega)]
theorem decode_letters {l : List Int} (h : ∀ x ∈ l, u8r x) : decodeS [sB l] = l.map ltrI := by
  have key : ∀ (l : List Int) (acc : List Int), (∀ x ∈ l, u8r x) → (l.map fun x => UInt8.ofNat (ltrI x).toNat).foldl byteD (dc0, acc) = (dc0, acc ++ l.map ltrI) := by
    intro l
    induction l with
    | nil => intro acc _; simp
    | cons x l ih =>
      intro acc h
      have hr := ltrI_rng (h x (by simp))
      have hb : byteD (dc0, acc) (UInt8.ofNat (ltrI x).toNat) = (dc0, acc ++ [ltrI x]) := by
        unfold byteD
        simp only
        rw [u8_back (by omega) (by omega), push_ascii (by omega) (by omega)]
      rw [List.map_cons, List.foldl_cons, hb, ih _ fun y hy => h y (by simp [hy]), List.map_cons, List.append_assoc]
      rfl
  unfold decodeS bytesD
  simp only [List.map_cons, List.map_nil, List.flatten_cons, List.flatten_nil, List.append_nil]
  rw [sB_list, key l [] h]
  show ([] ++ l.map ltrI) ++ endS dc0 = _
  rw [show endS dc0 = [] by decide, List.append_nil, List.nil_append]
theorem count_letters {l : List Int} (h : ∀ x ∈ l, u8r x) : countR (l.map ltrI) = l.length := by
  unfold countR
  rw [List.filter_eq_self.2, List.length_map]
  intro r hr
  obtain ⟨x, hx, rfl⟩ := List.mem_map.1 hr
  have hr := ltrI_rng (h x hx)
  rw [wOf_letter hr.1 hr.2]; rfl
theorem St.runes {R C : Nat} {b : Int} {A : At} {p : Pg} {l : List Int} (h : St R C b A (letA l) b 0 p) (hC : 1 ≤ C) (hb0 : 0 ≤ b) (hb1 : b ≤ 1) {y : Int} (hy0 : 0 ≤ y) (hy1 : y ≤ 1) (hl : l.length ≤ R * C) (hu : ∀ x ∈ l, u8r x) : ∀ k, k ≤ l.length → St R C b A (letA l) (if k = 0 then b else max b y) k (runesS p y ((l.map ltrI).take k)) := by
  intro k
  induction k with
  | zero => intro _; exact h
  | succ k ih =>
    intro hk
    have hi := ih (by omega)
    have hg : (l.map ltrI)[k]? = some (letA l k) := by
      unfold letA
      rw [List.getD_eq_getElem?_getD, List.getElem?_map, List.getElem?_eq_getElem (by omega)]; rfl
    have hw : wOf (letA l k) = 1 := by
      obtain ⟨x, hx, e⟩ := List.mem_map.1 (List.mem_of_getElem? hg)
      rw [← e]
      have := ltrI_rng (hu x hx)
      exact wOf_letter this.1 this.2
    have e : runesS p y ((l.map ltrI).take (k + 1)) = runeS (runesS p y ((l.map ltrI).take k)) (letA l k) y := by
      obtain ⟨q1, q2⟩ := List.getElem?_eq_some_iff.1 hg
      rw [List.take_succ_eq_append_getElem q1, q2]
      unfold runesS
      rw [List.foldl_append]; rfl
    rw [e, if_neg (show ¬ k + 1 = 0 by omega)]
    have := hi.rune hC hb0 hb1 (by split <;> omega) (by split <;> omega) hy0 hy1 (by omega) hw
    rw [show max b y = max (if k = 0 then b else max b y) y by split <;> omega]
    exact this
theorem St.new (n C : Nat) (hm : mayB (n + 1 : Nat) C = true) (b : Int) (hb0 : 0 ≤ b) (hb1 : b ≤ 1) (A : At) (L : Nat → Int) : St (n + 1) C b A L b 0 { newP n C b 5 with at_ := A } := by
  have hmm := of_decide_eq_true hm
  have hw := ((newP_pw n C hm hb0 hb1 5 (by decide)).attr A).i.good
  have e1 : wi ((n + 1 : Nat) : Int) 1 512 = (n + 1 : Nat) := wi_in (by omega) (by omega)
  have e2 : wi (C : Int) 1 512 = C := wi_in (by omega) (by omega)
  refine ⟨?_, rfl, rfl, ?_, rfl, ?_, rfl, hw⟩
  · show newS (n + 1 : Nat) C b = _
    unfold newS resizeS
    rw [e1, e2]
  · show List.replicate (n + 1) (List.replicate C (zB b)) = _
    rw [rowsOf_const]
    congr 1
  · show gotoS (newS (n + 1 : Nat) C b) 1 1 = curK C b 0
    unfold gotoS newS resizeS rowS curK
    rw [e1, e2]
    show (⟨wi (wi 1 1 ((n + 1 : Nat) : Int) - 1) 0 (((n + 1 : Nat) : Int) - 1), wi 1 1 (C : Int) - 1, false, b⟩ : Cu) = ⟨0, 0, false, b⟩
    rw [wi_in (n := 1) (m := ((n + 1 : Nat) : Int)) (by omega) (by omega), wi_in (n := 1) (m := (C : Int)) (by omega) (by omega), wi_in (n := 1 - 1) (by omega) (by omega)]
    rfl
theorem St.cell {R C : Nat} {b : Int} {A : At} {L : Nat → Int} {x : Int} {k : Nat} {p : Pg} (h : St R C b A L x k p) (hC : 1 ≤ C) {i : Nat} (hi : i < R * C) : cellAt (Cx.shG p) (i / C) (i % C) = cellF L A x k i := by
  unfold cellAt
  rw [h.shG, h.rows, rowsOf_get (row_lt hi), Option.getD_some, rowOf_get (Nat.mod_lt i hC), Option.getD_some, Nat.mul_comm, Nat.div_add_mod]
end Go.Cx
