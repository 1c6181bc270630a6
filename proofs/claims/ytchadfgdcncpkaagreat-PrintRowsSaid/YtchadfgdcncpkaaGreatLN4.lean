/- What functions of this seat compute, each for every argument of the shapes that are named; no condition beside the stated ones. -/
import Derived.Test.YtchadfgdcncpkaaGreatLL8g
namespace Go.Cx
open Go.Proofs Go.Row
set_option maxRecDepth 100000
set_option maxHeartbeats 16000000
/-! ### PrintRows -/
def bytV (l : List Int) : List (List V) := l.map fun x => [.int .u8 x]
theorem bytV_len (l : List Int) : (bytV l).length = l.length := by simp [bytV]
theorem bytV_get {l : List Int} {i : Nat} {x : Int} (h : l[i]? = some x) : (bytV l)[i]? = some [.int .u8 x] := by simp [bytV, h]
def stB (s : Sp) : Option Blk := some (.cells 28 s.cs)
theorem pgK_2 (p : Pg) (n : Nat) : (hpOf (pgB p)).map (Blk.mv (iot [2, 3, 4, 5, 6, 7, 8] n)) = pgAt 2 p := pgB_mvG p _ 2 rfl rfl rfl rfl rfl rfl
def envQ1 (a b c : Int) (l : List Int) (s : Sp) (R C n i : Nat) (t : ByteArray) : List V := [.agg [.int .u8 a, .int .u8 b, .int .u8 c], .psl 1 (bytV l) .any, s.v, .ptr 0 0, .undef, .ptr 1 0, .bool false, .int .i64 R, .int .i64 C, .ptr 2 0, .int .i64 n, .str t, .int .i64 i] ++ List.replicate 151 .undef
def envQ2 (a b c : Int) (l : List Int) (s : Sp) (R C n : Nat) (T : ByteArray) (lab : Int) (j : Nat) : List V := [.agg [.int .u8 a, .int .u8 b, .int .u8 c], .psl 1 (bytV l) .any, s.v, .ptr 0 0, .undef, .ptr 1 0, .bool false, .int .i64 R, .int .i64 C, .ptr 2 0, .int .i64 n, .str T, .undef, .int .u8 lab, .int .i64 j] ++ List.replicate 149 .undef
theorem mulW {R C : Nat} (h : R * C < 1000) : IntKind.i64.wrap ((R : Int) * (C : Int)) = ((R * C : Nat) : Int) := by
  rw [show (R : Int) * (C : Int) = ((R * C : Nat) : Int) by push_cast; rfl]
  generalize R * C = k at h
  rw [wri' (by omega) (by omega)]
theorem divW {R C j : Nat} (hC : 1 ≤ C) (hj : j < R * C) (h : R * C < 1000) : IntKind.i64.wrap ((j : Int).tdiv (C : Int)) = ((j / C : Nat) : Int) := by
  have : j / C ≤ j := Nat.div_le_self j C
  rw [show (j : Int).tdiv (C : Int) = ((j / C : Nat) : Int) from rfl]
  generalize j / C = q at this
  rw [wri' (by omega) (by omega)]
theorem modW {C j : Nat} : (j : Int).tmod (C : Int) = ((j % C : Nat) : Int) := rfl
theorem minW {R C len : Nat} (h : R * C < 1000) : (if IntKind.i64.wrap ((R : Int) * (C : Int)) < (len : Int) then IntKind.i64.wrap ((R : Int) * (C : Int)) else (len : Int)) = ((min len (R * C) : Nat) : Int) := by
  rw [show (R : Int) * (C : Int) = ((R * C : Nat) : Int) by push_cast; rfl]
  generalize R * C = k at h
  rw [wri' (by omega) (by omega)]
  split <;> omega
theorem chk {x : Int} (h : u8r x) : (isByteV (.int .u8 (IntKind.u8.wrap (97 + x.tmod 26))) && true && true) = true := by
  have := ltrI_rng h
  show ((decide (0 ≤ ltrI x) && decide (ltrI x < 256)) && true && true) = true
  rw [decide_eq_true (by omega), decide_eq_true (by omega)]; rfl
theorem sSz {l : List Int} {i n : Nat} {x : Int} (hn : n < 1000) (h : (i : Int) < n) : decide ((sB (l.take i)).size + (oneB x).size ≤ 9223372036854775807) = true := by
  rw [sB_size, List.length_take]
  exact decide_eq_true (by show min i l.length + 1 ≤ _; omega)
theorem sB_take {l : List Int} {i : Nat} {x : Int} (h : l[i]? = some x) : sB (l.take (i + 1)) = sB (l.take i) ++ oneB x := by
  obtain ⟨q1, q2⟩ := List.getElem?_eq_some_iff.1 h
  rw [List.take_succ_eq_append_getElem q1, q2, sB_snoc]
theorem zCmp {cl : Cl} {x : Int} (h : cl = zB x) : (!(cl.rune == 0 && (cl.m0 == 0 && (cl.m1 == 0 && true) && (cl.kind == 0 && (cl.attr.fk == 0 && (cl.attr.fr == 0 && (cl.attr.fg == 0 && (cl.attr.fb == 0 && true))) && (cl.attr.bk == 0 && (cl.attr.br == 0 && (cl.attr.bg == 0 && (cl.attr.bb == 0 && true))) && (cl.attr.fl == 0 && true)) && (cl.lab == x && true)))))) = false := by
  subst h
  show (!(_ && (_ && (_ && true) && (_ && (_ && (_ && (_ && (_ && true))) && (_ && (_ && (_ && (_ && true))) && (_ && true)) && (x == x && true)))))) = false
  rw [beq_self_eq_true]; rfl
theorem sIx {T : ByteArray} {i j : Nat} (hl : T.size = i) (h : j < i) : (decide (0 ≤ (j : Int)) && decide ((j : Int) < (T.size : Int))) = true := by
  rw [hl, decide_eq_true (by omega), decide_eq_true (by omega)]; rfl
theorem underQ2 {p : Pg} (h : p.ok) (a b c : Int) (l : List Int) (s : Sp) (R C n : Nat) (T : ByteArray) (lab : Int) (j : Nat) : ((envQ2 a b c l s R C n T lab j).all (V.under 9) && (szB a b c :: stB s :: pgAt 2 p).all (Blk.under 9)) = true := by
  have h1 : Blk.under 9 (grR p.g0) = true := okB_under (show Blk.okB 9 (grR p.g0) = true from rowsC_free _)
  have h2 : Blk.under 9 (grR p.g1) = true := okB_under (show Blk.okB 9 (grR p.g1) = true from rowsC_free _)
  have h3 : Blk.under 9 (rgL p.r) = true := okB_under (rgL_ok p.r h.r 9)
  have h4 : Blk.under 9 (some (.cells 110 (rgC 7 p.r))) = true := ls_ok p.r 7 9 (by decide)
  show (true && (true && (true && (true && (true && (Blk.under 9 (grR p.g0) && (true && (Blk.under 9 (grR p.g1) && (Blk.under 9 (some (.cells 110 (rgC 7 p.r))) && (Blk.under 9 (rgL p.r) && true)))))))))) = true
  rw [h1, h2, h3, h4]
  rfl
theorem lCmp {cl : Cl} {r x : Int} {A : At} (h : cl = ⟨r, 0, 0, 0, A, x⟩) : (!(cl.rune == r && (cl.m0 == 0 && (cl.m1 == 0 && true) && (cl.kind == 0 && (cl.attr.fk == A.fk && (cl.attr.fr == A.fr && (cl.attr.fg == A.fg && (cl.attr.fb == A.fb && true))) && (cl.attr.bk == A.bk && (cl.attr.br == A.br && (cl.attr.bg == A.bg && (cl.attr.bb == A.bb && true))) && (cl.attr.fl == A.fl && true)) && (cl.lab == x && true)))))) = false := by
  subst h
  simp only [beq_self_eq_true, Bool.and_true, Bool.not_true]
theorem letA_byte {l : List Int} (h : ∀ x ∈ l, u8r x) {j : Nat} (hj : j < l.length) : letA l j = IntKind.i32.wrap (((sB l).data.toList.getD (j : Int).toNat 0).toNat : Int) := by
  have hg : l[j]? = some l[j] := List.getElem?_eq_getElem hj
  have hr := ltrI_rng (h _ (List.mem_of_getElem? hg))
  unfold letA
  rw [sB_list, Int.toNat_natCast, List.getD_eq_getElem?_getD, List.getD_eq_getElem?_getD, List.getElem?_map, List.getElem?_map, hg]
  show ltrI l[j] = IntKind.i32.wrap ((UInt8.ofNat (ltrI l[j]).toNat).toNat : Int)
  rw [u8_back (by omega) (by omega), wr32 (by omega) (by omega)]
theorem rows_law (hwk : Fn Tryz.prog 6 [] (.bool true)) (a b c : Int) (ha : u8r a) (hb : u8r b) (l : List Int) (hl : l.length < 9223372036854775808) (hu : ∀ x ∈ l, u8r x) (s : Sp) (hs : s.ok) :
    Sem Tryz.prog 3 [.agg [.int .u8 a, .int .u8 b, .int .u8 c], .psl 1 (bytV l) .any, s.v] [] fun v _ => v = .bool true := by
  generalize hR : (a % 7).toNat + 1 = R
  generalize hC : (b % 9).toNat + 1 = C
  have hR7 : R ≤ 7 := by omega
  have hC9 : C ≤ 9 := by omega
  have hC1 : 1 ≤ C := by omega
  obtain ⟨n', hn'⟩ : ∃ n', R = n' + 1 := ⟨(a % 7).toNat, hR.symm⟩
  have hm : mayB (n' + 1 : Nat) C = true := decide_eq_true (by omega)
  have hc01 : 0 ≤ baseS c ∧ baseS c ≤ 1 := by unfold baseS; split <;> omega
  have hnew := pNew n' C hm (baseS c) hc01.1 hc01.2 5 (by decide)
  have hsz := sizeF ha hb
  rw [hR, hC] at hsz
  rw [← hn'] at hnew hm
  have hba := baseF c
  generalize baseS c = B at hnew hc01 hba
  obtain ⟨A, hA⟩ := attrF s.d
  have hst := St.new n' C (by rw [← hn']; exact hm) B hc01.1 hc01.2 A (letA (l.take (min l.length (R * C))))
  rw [← hn'] at hst
  have hok0 := newP_ok n' C B 5 (by decide)
  generalize newP n' C B 5 = p0 at hnew hst hok0
  have hsa := pSetAttr p0 hok0 A
  generalize { p0 with at_ := A } = p1 at hst hsa
  have hRC : R * C < 1000 := Nat.lt_of_le_of_lt (Nat.mul_le_mul hR7 hC9) (by decide)
  have hnw : (if IntKind.i64.wrap ((R : Int) * (C : Int)) < ((bytV l).length : Int) then IntKind.i64.wrap ((R : Int) * (C : Int)) else ((bytV l).length : Int)) = ((min l.length (R * C) : Nat) : Int) := by rw [bytV_len, minW hRC]
  generalize hn : min l.length (R * C) = n at hnw hst
  have hlt' : (l.take n).length = n := by rw [List.length_take]; omega
  have hu' : ∀ x ∈ l.take n, u8r x := fun x h => hu x (List.mem_of_mem_take h)
  have hby : 0 ≤ s.by_ ∧ s.by_ ≤ 1 := by unfold Sp.by_; split <;> omega
  have hnRC : n ≤ R * C := by omega
  have htx := pText p1 hst.good s.by_ [sB (l.take n)] (show 1 < 100000 by decide) (by
    unfold bytesD
    simp only [List.map_cons, List.map_nil, List.flatten_cons, List.flatten_nil, List.append_nil]
    rw [sB_list, List.length_map, hlt']; omega)
  have hfin := hst.runes hC1 hc01.1 hc01.2 hby.1 hby.2 (by rw [hlt']; exact hnRC) hu' n (by rw [hlt']; exact Nat.le_refl _)
  rw [show ((l.take n).map ltrI).take n = (l.take n).map ltrI from List.take_of_length_le (by rw [List.length_map, hlt']; exact Nat.le_refl _)] at hfin
  rw [decode_letters hu', count_letters hu', hlt'] at htx
  generalize runesS p1 s.by_ ((l.take n).map ltrI) = p2 at htx hfin
  have hbs : Eff Tryz.prog 14 [.ptr 0 0] (pgB p2) (pgB p2) (.int .u8 B) := by have := pBase p2 hfin.good.ok; rw [hfin.a] at this; exact this
  have hcu := pCursor p2 hfin.good.ok
  have har := pArea p2 hfin.good.ok
  have hli := pLines p2 hfin.good.ok
  have hle := iLen p2.r
  have hcell := fun i j => pAt p2 hfin.good.ok (by rw [hfin.shG]; exact hfin.good.inv.g0.ok) i j
  have hhome := home_fn p2.a hfin.good.inv.a
  generalize hlab : (if B > s.by_ then B else s.by_) = lab
  have hlab' : max B s.by_ = lab := by rw [← hlab]; split <;> omega
  refine Sem.of_body tysOk md0 Tryz.func3 rfl rfl ?_
  refine hwk.sem _ ?_
  repeat (first | refine BCase.yes rfl ?_ | refine BCase.no rfl ?_)
  refine hsz.sem _ ?_
  refine hba.sem _ ?_
  refine hnew.call [] 2 rfl rfl (by decide) rfl rfl ?_
  rw [pgB_new]
  repeat (first | refine BCase.yes rfl ?_ | refine BCase.no rfl ?_)
  refine LoopP.inv (md := md0) (fun k env h => ∃ (i : Nat), k = n - i ∧ i ≤ n ∧ env = envQ1 a b c l s R C n i (sB (l.take i)) ∧ h = szB a b c :: stB s :: pgAt 2 p0) n ⟨envQ1 a b c l s R C n 0 (sB (l.take 0)), _, .same ?_ rfl, 0, rfl, Nat.zero_le _, rfl, rfl⟩ ?_
  · repeat (first | exact trivial | refine ⟨.inl rfl, ?_⟩ | refine ⟨.inl (congrArg (V.int .i64) hnw.symm), ?_⟩ | refine ⟨.inr rfl, ?_⟩)
  rintro k _ _ ⟨i, rfl, hi, rfl, rfl⟩
  refine ⟨fun hlt => ?_, fun hlt => ?_⟩
  · have hlt : (i : Int) < n := of_decide_eq_true hlt
    obtain ⟨x, hx⟩ : ∃ x, l[i]? = some x := ⟨_, List.getElem?_eq_getElem (by omega)⟩
    repeat (first | refine BCase.yes rfl ?_ | refine BCase.no rfl ?_)
    refine ⟨_, ⟨by omega, by rw [Int.toNat_natCast]; exact bytV_get hx⟩, gdP rfl ?_⟩
    repeat (first | refine BCase.yes rfl ?_ | refine BCase.no rfl ?_)
    refine gdP (chk (hu x (List.mem_of_getElem? hx))) ?_
    repeat (first | refine BCase.yes rfl ?_ | refine BCase.no rfl ?_)
    refine gdP (sSz (by omega) hlt) ?_
    repeat (first | refine BCase.yes rfl ?_ | refine BCase.no rfl ?_)
    refine ⟨n - (i + 1), envQ1 a b c l s R C n (i + 1) (sB (l.take (i + 1))), _, by omega, .same ?_ rfl, i + 1, rfl, by omega, rfl, rfl⟩
    repeat (first | exact trivial | refine ⟨.inl rfl, ?_⟩ | refine ⟨.inl (congrArg (V.int .i64) (wrs i 1 (by omega)).symm), ?_⟩ | refine ⟨.inl (congrArg V.str (sB_take hx)), ?_⟩ | refine ⟨.inr rfl, ?_⟩)
  · have hi' : i = n := by have hlt := of_decide_eq_false hlt; omega
    subst hi'
    repeat (first | refine BCase.yes rfl ?_ | refine BCase.no rfl ?_)
    refine hA.sem _ ?_
    repeat (first | refine BCase.yes rfl ?_ | refine BCase.no rfl ?_)
    refine hsa.call [2, 3, 4, 5, 6, 7, 8] 9 rfl rfl (by decide) rfl (pgK_2 p0 9).symm ?_
    rw [pgK_2]
    refine (byF s).sem _ ?_
    repeat (first | refine BCase.yes rfl ?_ | refine BCase.no rfl ?_)
    refine htx.call [2, 3, 4, 5, 6, 7, 8] 9 rfl rfl (by decide) rfl (pgK_2 p1 9).symm ?_
    rw [pgK_2]
    repeat (first | refine BCase.yes rfl ?_ | refine BCase.no rfl ?_)
    refine BCase.no (show ((i : Int) != (i : Int)) = false by simp) ?_
    repeat (first | refine BCase.yes rfl ?_ | refine BCase.no rfl ?_)
    refine (byF s).sem _ ?_
    repeat (first | refine BCase.yes rfl ?_ | refine BCase.no rfl ?_)
    refine hbs.call [2, 3, 4, 5, 6, 7, 8] 9 rfl rfl (by decide) rfl (pgK_2 p2 9).symm ?_
    rw [pgK_2]
    repeat (first | refine BCase.yes rfl ?_ | refine BCase.no rfl ?_)
    obtain ⟨m, rfl⟩ : ∃ m, C = m + 1 := ⟨C - 1, by omega⟩
    have hTs : (sB (l.take i)).size = i := by rw [sB_size, hlt']
    have hTb := fun (j : Nat) (hji : j < i) => letA_byte hu' (j := j) (by rw [hlt']; exact hji)
    generalize sB (l.take i) = T at hTs hTb
    generalize letA (l.take i) = LL at hTb hfin hst
    generalize hx : (if i = 0 then B else max B s.by_) = x at hfin
    have hcC := hfin.c
    have hcH : (gotoS p2.a 1 1) = ⟨0, 0, false, B⟩ := by
      rw [hfin.a]
      unfold gotoS rowS
      show (⟨wi (wi 1 1 (R : Int) - 1) 0 ((R : Int) - 1), wi 1 1 ((m + 1 : Nat) : Int) - 1, false, B⟩ : Cu) = ⟨0, 0, false, B⟩
      rw [wi_in (n := 1) (m := (R : Int)) (by omega) (by omega), wi_in (n := 1) (m := ((m + 1 : Nat) : Int)) (by omega) (by omega), wi_in (n := 1 - 1) (by omega) (by omega)]
      rfl
    have hln := hfin.lines
    unfold rgI at hli hle
    rw [hln] at hli hle
    generalize gotoS p2.a 1 1 = hm' at hcH hhome
    generalize p2.c = cc at hcC hcu
    refine LoopP.inv (md := md0) (fun k env h => ∃ (j : Nat), k = R * (m + 1) - j ∧ j ≤ R * (m + 1) ∧ env = envQ2 a b c l s R (m + 1) i T lab j ∧ h = szB a b c :: stB s :: pgAt 2 p2) (R * (m + 1)) ⟨envQ2 a b c l s R (m + 1) i T lab 0, _, .same ?_ rfl, 0, rfl, Nat.zero_le _, rfl, rfl⟩ ?_
    · repeat (first | exact trivial | refine ⟨.inl rfl, ?_⟩ | refine ⟨.inl (congrArg (V.int .u8) hlab.symm), ?_⟩ | refine ⟨.inr rfl, ?_⟩)
    rintro k _ _ ⟨j, rfl, hj, rfl, rfl⟩
    refine ⟨fun hjl => ?_, fun hjl => ?_⟩
    · have hjl : (j : Int) < IntKind.i64.wrap ((R : Int) * ((m + 1 : Nat) : Int)) := of_decide_eq_true hjl
      rw [mulW hRC] at hjl
      have hjl : j < R * (m + 1) := Int.ofNat_lt.1 hjl
      have hc := hcell (j / (m + 1)) (j % (m + 1)) (by rw [hfin.shG, hfin.rows, rowsOf_len]; exact row_lt hjl) (by rw [hfin.shG, hfin.cols]; exact Nat.mod_lt _ hC1)
      rw [hfin.cell hC1 hjl] at hc
      generalize hcl : cellF LL A x i j = cl at hc
      unfold posV at hc
      rw [← divW hC1 hjl hRC, ← modW] at hc
      repeat (first | refine BCase.yes rfl ?_ | refine BCase.no rfl ?_)
      refine DrawP.intro tysOk mixed false ?_
      refine ⟨_, hc.callR [2, 3, 4, 5, 6, 7, 8] 9 rfl rfl (by decide) rfl (pgK_2 p2 9).symm, ?_⟩
      refine ⟨by kernel_rfl, ?_⟩
      repeat (first | refine BCase.yes rfl ?_ | refine BCase.no rfl ?_)
      refine hbs.call [2, 3, 4, 5, 6, 7, 8] 10 rfl rfl (by decide) rfl (pgK_2 p2 10).symm ?_
      rw [pgK_2]
      repeat (first | refine BCase.yes rfl ?_ | refine BCase.no rfl ?_)
      by_cases hi0 : i = 0
      · refine BCase.no (show decide ((i : Int) > 0) = false from decide_eq_false (by omega)) ?_
        repeat (first | refine BCase.yes rfl ?_ | refine BCase.no rfl ?_)
        refine BCase.no (show decide ((j : Int) < (i : Int)) = false from decide_eq_false (by omega)) ?_
        repeat (first | refine BCase.yes rfl ?_ | refine BCase.no rfl ?_)
        refine BCase.no (show (!(cl.rune == 0 && (cl.m0 == 0 && (cl.m1 == 0 && true) && (cl.kind == 0 && (cl.attr.fk == 0 && (cl.attr.fr == 0 && (cl.attr.fg == 0 && (cl.attr.fb == 0 && true))) && (cl.attr.bk == 0 && (cl.attr.br == 0 && (cl.attr.bg == 0 && (cl.attr.bb == 0 && true))) && (cl.attr.fl == 0 && true)) && (cl.lab == B && true)))))) = false from zCmp (by rw [← hcl, ← hx]; unfold cellF; rw [if_neg (by omega), if_pos hi0])) ?_
        repeat (first | refine BCase.yes rfl ?_ | refine BCase.no rfl ?_)
        refine ⟨R * (m + 1) - (j + 1), envQ2 a b c l s R (m + 1) i T lab (j + 1), szB a b c :: stB s :: pgAt 2 p2, by omega, .cut ?_ (by show 9 ≤ 9; decide) rfl (underQ2 hfin.good.ok ..), j + 1, rfl, by omega, rfl, rfl⟩
        repeat (first | exact trivial | refine ⟨.inl rfl, ?_⟩ | refine ⟨.inl (congrArg (V.int .i64) (wrs j 1 (by omega)).symm), ?_⟩ | refine ⟨.inr rfl, ?_⟩)
      · refine BCase.yes (show decide ((i : Int) > 0) = true from decide_eq_true (by omega)) ?_
        repeat (first | refine BCase.yes rfl ?_ | refine BCase.no rfl ?_)
        by_cases hji : j < i
        · refine BCase.yes (show decide ((j : Int) < (i : Int)) = true from decide_eq_true (by omega)) ?_
          repeat (first | refine BCase.yes rfl ?_ | refine BCase.no rfl ?_)
          refine DrawP.intro tysOk mixed false ?_
          refine gdP (sIx hTs hji) ?_
          refine ⟨_, hA.callT _ _, ?_⟩
          refine ⟨by kernel_rfl, ?_⟩
          repeat (first | refine BCase.yes rfl ?_ | refine BCase.no rfl ?_)
          refine BCase.no (show (!(cl.rune == IntKind.i32.wrap ((T.data.toList.getD (j : Int).toNat 0).toNat : Int) && (cl.m0 == 0 && (cl.m1 == 0 && true) && (cl.kind == 0 && (cl.attr.fk == A.fk && (cl.attr.fr == A.fr && (cl.attr.fg == A.fg && (cl.attr.fb == A.fb && true))) && (cl.attr.bk == A.bk && (cl.attr.br == A.br && (cl.attr.bg == A.bg && (cl.attr.bb == A.bb && true))) && (cl.attr.fl == A.fl && true)) && (cl.lab == lab && true)))))) = false from lCmp (by rw [← hcl, ← hx, if_neg hi0, hlab']; unfold cellF; rw [if_pos hji, hTb j hji])) ?_
          repeat (first | refine BCase.yes rfl ?_ | refine BCase.no rfl ?_)
          refine ⟨R * (m + 1) - (j + 1), envQ2 a b c l s R (m + 1) i T lab (j + 1), szB a b c :: stB s :: pgAt 2 p2, by omega, .cut ?_ (by show 9 ≤ 9; decide) rfl (underQ2 hfin.good.ok ..), j + 1, rfl, by omega, rfl, rfl⟩
          repeat (first | exact trivial | refine ⟨.inl rfl, ?_⟩ | refine ⟨.inl (congrArg (V.int .i64) (wrs j 1 (by omega)).symm), ?_⟩ | refine ⟨.inr rfl, ?_⟩)
        · refine BCase.no (show decide ((j : Int) < (i : Int)) = false from decide_eq_false (by omega)) ?_
          repeat (first | refine BCase.yes rfl ?_ | refine BCase.no rfl ?_)
          refine BCase.no (show (!(cl.rune == 0 && (cl.m0 == 0 && (cl.m1 == 0 && true) && (cl.kind == 0 && (cl.attr.fk == 0 && (cl.attr.fr == 0 && (cl.attr.fg == 0 && (cl.attr.fb == 0 && true))) && (cl.attr.bk == 0 && (cl.attr.br == 0 && (cl.attr.bg == 0 && (cl.attr.bb == 0 && true))) && (cl.attr.fl == 0 && true)) && (cl.lab == lab && true)))))) = false from zCmp (by rw [← hcl, ← hx, if_neg hi0, hlab']; unfold cellF; rw [if_neg hji])) ?_
          repeat (first | refine BCase.yes rfl ?_ | refine BCase.no rfl ?_)
          refine ⟨R * (m + 1) - (j + 1), envQ2 a b c l s R (m + 1) i T lab (j + 1), szB a b c :: stB s :: pgAt 2 p2, by omega, .cut ?_ (by show 9 ≤ 9; decide) rfl (underQ2 hfin.good.ok ..), j + 1, rfl, by omega, rfl, rfl⟩
          repeat (first | exact trivial | refine ⟨.inl rfl, ?_⟩ | refine ⟨.inl (congrArg (V.int .i64) (wrs j 1 (by omega)).symm), ?_⟩ | refine ⟨.inr rfl, ?_⟩)
    · repeat (first | refine BCase.yes rfl ?_ | refine BCase.no rfl ?_)
      refine hcu.call [2, 3, 4, 5, 6, 7, 8] 9 rfl rfl (by decide) rfl (pgK_2 p2 9).symm ?_
      rw [pgK_2]
      repeat (first | refine BCase.yes rfl ?_ | refine BCase.no rfl ?_)
      by_cases hi0 : i = 0
      · refine BCase.yes (show ((i : Int) == 0) = true from beq_iff_eq.2 (by omega)) ?_
        repeat (first | refine BCase.yes rfl ?_ | refine BCase.no rfl ?_)
        refine DrawP.intro tysOk mixed false ?_
        refine ⟨_, har.callR [2, 3, 4, 5, 6, 7, 8] 10 rfl rfl (by decide) rfl (pgK_2 p2 10).symm, ?_⟩
        refine ⟨_, hhome.callT _ _, ?_⟩
        refine ⟨by kernel_rfl, ?_⟩
        repeat (first | refine BCase.yes rfl ?_ | refine BCase.no rfl ?_)
        show V.bool _ = V.bool true
        have e : cc = hm' := by rw [hcC, hcH, ← hx, if_pos hi0]; unfold curK; rw [if_pos hi0]
        rw [e, beq_self_eq_true, beq_self_eq_true, beq_self_eq_true, beq_self_eq_true]; rfl
      · refine BCase.no (show ((i : Int) == 0) = false from beq_eq_false_iff_ne.2 (by omega)) ?_
        have hi1 : IntKind.i64.wrap ((i : Int) - 1) = ((i - 1 : Nat) : Int) := by rw [wri' (by omega) (by omega)]; omega
        have hm1 : IntKind.i64.wrap (((m + 1 : Nat) : Int) - 1) = (m : Int) := by rw [wri' (by omega) (by omega)]; omega
        have hmd : (i - 1) % (m + 1) < m + 1 := Nat.mod_lt _ (by omega)
        have e1 : (IntKind.i64.wrap ((i : Int) - 1)).tmod ((m + 1 : Nat) : Int) = (((i - 1) % (m + 1) : Nat) : Int) := by rw [hi1]; rfl
        have e2 : IntKind.i64.wrap ((IntKind.i64.wrap ((i : Int) - 1)).tdiv ((m + 1 : Nat) : Int)) = (((i - 1) / (m + 1) : Nat) : Int) := by
          rw [hi1]; exact divW (R := R) (by omega) (by omega) hRC
        rw [← hx, if_neg hi0, hlab'] at hcC
        unfold curK at hcC
        rw [if_neg hi0, Nat.add_sub_cancel, ← e2] at hcC
        generalize (i - 1) % (m + 1) = r at hmd e1 hcC
        have e3 : IntKind.i64.wrap ((r : Int) + 1) = ((r + 1 : Nat) : Int) := by rw [wri' (by omega) (by omega)]; rfl
        repeat (first | refine BCase.yes rfl ?_ | refine BCase.no rfl ?_)
        by_cases hrm : r = m
        · refine BCase.yes (show ((IntKind.i64.wrap ((i : Int) - 1)).tmod ((m + 1 : Nat) : Int) == IntKind.i64.wrap (((m + 1 : Nat) : Int) - 1)) = true by rw [e1, hm1, hrm, beq_self_eq_true]) ?_
          repeat (first | refine BCase.yes rfl ?_ | refine BCase.no rfl ?_)
          refine DrawP.intro tysOk mixed false ?_
          have hb : (cc.row == IntKind.i64.wrap ((IntKind.i64.wrap ((i : Int) - 1)).tdiv ((m + 1 : Nat) : Int)) && (cc.col == IntKind.i64.wrap (((m + 1 : Nat) : Int) - 1) && (cc.wrap == ((IntKind.i64.wrap ((i : Int) - 1)).tmod ((m + 1 : Nat) : Int) == IntKind.i64.wrap (((m + 1 : Nat) : Int) - 1)) && (cc.lab == lab && true)))) = true := by rw [hcC, if_pos hrm, decide_eq_true hrm, e1, hm1, hrm]; simp only [beq_self_eq_true, Bool.and_true]
          refine BCase.yes hb ?_
          refine BCase.yes rfl ?_
          refine ⟨_, hli.callR [2, 3, 4, 5, 6, 7, 8] 10 rfl rfl (by decide) rfl (pgK_2 p2 10).symm, ?_⟩
          refine BCase.yes rfl ?_
          refine ⟨_, hle.callT _ _, ?_⟩
          refine BCase.yes rfl ?_
          refine ⟨by kernel_rfl, ?_⟩
          repeat (first | refine BCase.yes rfl ?_ | refine BCase.no rfl ?_)
          rfl
        · refine BCase.no (show ((IntKind.i64.wrap ((i : Int) - 1)).tmod ((m + 1 : Nat) : Int) == IntKind.i64.wrap (((m + 1 : Nat) : Int) - 1)) = false by rw [e1, hm1]; exact beq_eq_false_iff_ne.2 (by omega)) ?_
          repeat (first | refine BCase.yes rfl ?_ | refine BCase.no rfl ?_)
          refine DrawP.intro tysOk mixed false ?_
          have hb : (cc.row == IntKind.i64.wrap ((IntKind.i64.wrap ((i : Int) - 1)).tdiv ((m + 1 : Nat) : Int)) && (cc.col == IntKind.i64.wrap ((IntKind.i64.wrap ((i : Int) - 1)).tmod ((m + 1 : Nat) : Int) + 1) && (cc.wrap == ((IntKind.i64.wrap ((i : Int) - 1)).tmod ((m + 1 : Nat) : Int) == IntKind.i64.wrap (((m + 1 : Nat) : Int) - 1)) && (cc.lab == lab && true)))) = true := by rw [hcC, if_neg hrm, decide_eq_false hrm, e1, hm1, e3, show (((r : Nat) : Int) == (m : Int)) = false from beq_eq_false_iff_ne.2 (by omega)]; simp only [beq_self_eq_true, Bool.and_true]
          refine BCase.yes hb ?_
          refine BCase.yes rfl ?_
          refine ⟨_, hli.callR [2, 3, 4, 5, 6, 7, 8] 10 rfl rfl (by decide) rfl (pgK_2 p2 10).symm, ?_⟩
          refine BCase.yes rfl ?_
          refine ⟨_, hle.callT _ _, ?_⟩
          refine BCase.yes rfl ?_
          refine ⟨by kernel_rfl, ?_⟩
          repeat (first | refine BCase.yes rfl ?_ | refine BCase.no rfl ?_)
          rfl
end Go.Cx
