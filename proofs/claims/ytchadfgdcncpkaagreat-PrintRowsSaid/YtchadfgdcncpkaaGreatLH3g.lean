/- What functions of this seat compute, each for every argument of the shapes that are named; no condition beside the stated ones. -/
import Derived.Test.YtchadfgdcncpkaaGreatLH2
import Derived.Test.YtchadfgdcncpkaaGreatCx25
import Derived.Test.YtchadfgdcncpkaaGreatLG6g
namespace Go.Cx
open Go.Proofs Go.Row
set_option maxRecDepth 100000
set_option maxHeartbeats 8000000
/-! ### Pages -/
structure Pg where
  a : Ar
  c : Cu
  g0 : Gr
  g1 : Gr
  r : Rg
  room : Int
  t : Tb
  m : BitVec 16
  at_ : At
  last : Int
  known : Int
def Ar.cs (a : Ar) : List V := [.int .i64 a.rows, .int .i64 a.cols, .int .i64 a.top, .int .i64 a.bottom, .bool a.org, .int .u8 a.base]
def Cu.cs (c : Cu) : List V := [.int .i64 c.row, .int .i64 c.col, .bool c.wrap, .int .u8 c.lab]
def pgC (p : Pg) : List V := [.int .i64 p.a.rows, .int .i64 p.a.cols, .int .i64 p.a.top, .int .i64 p.a.bottom, .bool p.a.org, .int .u8 p.a.base, .int .i64 p.c.row, .int .i64 p.c.col, .bool p.c.wrap, .int .u8 p.c.lab, .ptr 1 0, .ptr 3 0, .ptr 5 0, .int .i64 p.room,
  .int .u64 (p.t.w 0 : Nat), .int .u64 (p.t.w 1 : Nat), .int .u64 (p.t.w 2 : Nat), .int .u64 (p.t.w 3 : Nat), .int .u64 (p.t.w 4 : Nat), .int .u64 (p.t.w 5 : Nat), .int .u64 (p.t.w 6 : Nat), .int .u64 (p.t.w 7 : Nat), .int .i64 p.t.cols, .int .u8 p.t.lab, .int .u8 p.t.base, .int .u16 (p.m.toNat : Int),
  .int .u8 p.at_.fk, .int .u8 p.at_.fr, .int .u8 p.at_.fg, .int .u8 p.at_.fb, .int .u8 p.at_.bk, .int .u8 p.at_.br, .int .u8 p.at_.bg, .int .u8 p.at_.bb, .int .u16 p.at_.fl, .int .i32 p.last, .int .u8 p.known]
def pgB (p : Pg) : List Blk := [.cells 93 (pgC p), .cells 148 (grC 1 p.g0), grR p.g0, .cells 148 (grC 3 p.g1), grR p.g1, .cells 110 (rgC 5 p.r), rgL p.r]
structure Pg.ok (p : Pg) : Prop where
  r : p.r.ok
theorem rgL_ok (r : Rg) (h : r.ok) (n : Nat) : Blk.okB n (rgL r) = true := by
  unfold rgL Rg.gC
  have hg := h.gh
  cases hl : r.lines with
  | nil => exact hg
  | cons x l => exact rowsC_free _
theorem ls_ok (r : Rg) (b n : Nat) (h : b + 1 < n) : ((rgC b r).all (V.under n)) = true := by
  unfold rgC Rg.ls
  cases hl : r.lines with
  | nil => rfl
  | cons x l => show ((Nat.blt (b + 1) n) && true) = true; rw [show Nat.blt (b + 1) n = true by rw [Nat.blt_eq]; exact h]; rfl
theorem pgB_ok (p : Pg) (h : p.ok) : (pgB p).all (Blk.okB 7) = true := by
  have h1 : Blk.okB 7 (grR p.g0) = true := rowsC_free _
  have h2 : Blk.okB 7 (grR p.g1) = true := rowsC_free _
  have h3 := rgL_ok p.r h.r 7
  have h4 : Blk.okB 7 (.cells 110 (rgC 5 p.r)) = true := ls_ok p.r 5 7 (by decide)
  show (true && (true && (Blk.okB 7 (grR p.g0) && (true && (Blk.okB 7 (grR p.g1) && (Blk.okB 7 (.cells 110 (rgC 5 p.r)) && (Blk.okB 7 (rgL p.r) && true))))))) = true
  rw [h1, h2, h3, h4]
  rfl
theorem pShown (p : Pg) (h : p.ok) : Eff Tryz.prog 81 [.ptr 0 0] (pgB p) (pgB p) (.int .i64 (if isOf p.m ⟨true, 47⟩ then 1 else 0)) := by
  have hok := pgB_ok p h
  refine Eff.of rfl rfl hok hok (Nat.le_refl _) (Sem.of_body tysOk md0 Tryz.func81 rfl rfl ?_)
  refine (mIs p.m ⟨true, 47⟩).sem _ ?_
  refine ⟨fun h => ?_, fun h => ?_⟩
  · have h : isOf p.m ⟨true, 47⟩ = true := h
    rw [h]
    exact ⟨rfl, Nat.le_refl _, .inl rfl, .inl rfl, .inl rfl, .inl rfl, .inl rfl, .inl rfl, .inl rfl, trivial⟩
  · have h : isOf p.m ⟨true, 47⟩ = false := h
    rw [h]
    exact ⟨rfl, Nat.le_refl _, .inl rfl, .inl rfl, .inl rfl, .inl rfl, .inl rfl, .inl rfl, .inl rfl, trivial⟩
/-- The grid that is shown stands at these blocks. -/
def shB (p : Pg) : Nat := if isOf p.m ⟨true, 47⟩ then 3 else 1
theorem pGrid (p : Pg) (h : p.ok) : Eff Tryz.prog 43 [.ptr 0 0] (pgB p) (pgB p) (.ptr (shB p) 0) := by
  have hok := pgB_ok p h
  have hs0 := pShown p h
  unfold shB
  cases hm : isOf p.m ⟨true, 47⟩ with
  | true =>
    have hs : Eff Tryz.prog 81 [.ptr 0 0] (pgB p) (pgB p) (.int .i64 1) := by rw [hm] at hs0; exact hs0
    refine Eff.of rfl rfl hok hok (Nat.le_refl _) (Sem.of_body tysOk md0 Tryz.func43 rfl rfl ?_)
    refine DrawP.intro tysOk mixed false ?_
    refine ⟨_, hs.hereR [0, 1, 2, 3, 4, 5, 6] [] 7 rfl rfl rfl, ?_⟩
    refine ⟨by kernel_rfl, ?_⟩
    exact ⟨rfl, Nat.le_refl _, .inl rfl, .inl rfl, .inl rfl, .inl rfl, .inl rfl, .inl rfl, .inl rfl, trivial⟩
  | false =>
    have hs : Eff Tryz.prog 81 [.ptr 0 0] (pgB p) (pgB p) (.int .i64 0) := by rw [hm] at hs0; exact hs0
    refine Eff.of rfl rfl hok hok (Nat.le_refl _) (Sem.of_body tysOk md0 Tryz.func43 rfl rfl ?_)
    refine DrawP.intro tysOk mixed false ?_
    refine ⟨_, hs.hereR [0, 1, 2, 3, 4, 5, 6] [] 7 rfl rfl rfl, ?_⟩
    refine ⟨by kernel_rfl, ?_⟩
    exact ⟨rfl, Nat.le_refl _, .inl rfl, .inl rfl, .inl rfl, .inl rfl, .inl rfl, .inl rfl, .inl rfl, trivial⟩
theorem pBase (p : Pg) (h : p.ok) : Eff Tryz.prog 14 [.ptr 0 0] (pgB p) (pgB p) (.int .u8 p.a.base) := by
  have hok := pgB_ok p h
  refine Eff.of rfl rfl hok hok (Nat.le_refl _) (Sem.of_body tysOk md0 Tryz.func14 rfl rfl ?_)
  refine Sem.of_body tysOk md0 Tryz.func41 rfl rfl ?_
  repeat (first | refine BCase.yes rfl ?_ | refine BCase.no rfl ?_)
  refine Sem.of_body tysOk md0 Tryz.func42 rfl rfl ?_
  exact ⟨rfl, by show 7 ≤ 8; decide, .inl rfl, .inl rfl, .inl rfl, .inl rfl, .inl rfl, .inl rfl, .inl rfl, trivial⟩
end Go.Cx
namespace Go.Cx
open Go.Proofs Go.Row
set_option maxRecDepth 100000
set_option maxHeartbeats 8000000
/-! ### Pages: what is told of them, what is set -/
theorem pCursor (p : Pg) (h : p.ok) : Eff Tryz.prog 16 [.ptr 0 0] (pgB p) (pgB p) p.c.v := by
  have hok := pgB_ok p h
  refine Eff.of rfl rfl hok hok (Nat.le_refl _) (Sem.of_body tysOk md0 Tryz.func16 rfl rfl ?_)
  refine Sem.of_body tysOk md0 Tryz.func45 rfl rfl ?_
  repeat (first | refine BCase.yes rfl ?_ | refine BCase.no rfl ?_)
  refine Sem.of_body tysOk md0 Tryz.func46 rfl rfl ?_
  exact ⟨rfl, Nat.le_of_ble_eq_true rfl, .inl rfl, .inl rfl, .inl rfl, .inl rfl, .inl rfl, .inl rfl, .inl rfl, trivial⟩
theorem pArea (p : Pg) (h : p.ok) : Eff Tryz.prog 17 [.ptr 0 0] (pgB p) (pgB p) p.a.v := by
  have hok := pgB_ok p h
  refine Eff.of rfl rfl hok hok (Nat.le_refl _) (Sem.of_body tysOk md0 Tryz.func17 rfl rfl ?_)
  refine Sem.of_body tysOk md0 Tryz.func47 rfl rfl ?_
  repeat (first | refine BCase.yes rfl ?_ | refine BCase.no rfl ?_)
  refine Sem.of_body tysOk md0 Tryz.func48 rfl rfl ?_
  exact ⟨rfl, Nat.le_of_ble_eq_true rfl, .inl rfl, .inl rfl, .inl rfl, .inl rfl, .inl rfl, .inl rfl, .inl rfl, trivial⟩
theorem pBlank (p : Pg) (h : p.ok) (l : Int) : Eff Tryz.prog 143 [.ptr 0 0, .int .u8 l] (pgB p) (pgB p) (Cl.v (blankOf p.at_ l)) := by
  have hok := pgB_ok p h
  refine Eff.of rfl rfl hok hok (Nat.le_refl _) (Sem.of_body tysOk md0 Tryz.func143 rfl rfl ?_)
  refine Sem.of_body tysOk md0 Tryz.func164 rfl rfl ?_
  repeat (first | refine BCase.yes rfl ?_ | refine BCase.no rfl ?_)
  refine Sem.of_body tysOk md0 Tryz.func165 rfl rfl ?_
  refine DrawP.intro tysOk mixed false ?_
  refine ⟨_, (rBlank p.at_ l).callT _ _, ?_⟩
  refine ⟨by kernel_rfl, ?_⟩
  exact ⟨rfl, Nat.le_of_ble_eq_true rfl, .inl rfl, .inl rfl, .inl rfl, .inl rfl, .inl rfl, .inl rfl, .inl rfl, trivial⟩
theorem pLast (p : Pg) (h : p.ok) : Eff Tryz.prog 25 [.ptr 0 0] (pgB p) (pgB p) (.tup [.int .i32 p.last, .int .u8 p.known]) := by
  have hok := pgB_ok p h
  refine Eff.of rfl rfl hok hok (Nat.le_refl _) (Sem.of_body tysOk md0 Tryz.func25 rfl rfl ?_)
  repeat (first | refine BCase.yes rfl ?_ | refine BCase.no rfl ?_)
  refine DrawP.intro tysOk mixed false ?_
  refine ⟨by kernel_rfl, ?_⟩
  exact ⟨rfl, Nat.le_of_ble_eq_true rfl, .inl rfl, .inl rfl, .inl rfl, .inl rfl, .inl rfl, .inl rfl, .inl rfl, trivial⟩
theorem pSetAttr (p : Pg) (h : p.ok) (a : At) : Eff Tryz.prog 10 [.ptr 0 0, At.v a] (pgB p) (pgB { p with at_ := a }) (.tup []) := by
  refine Eff.of rfl rfl (pgB_ok p h) (pgB_ok _ ⟨h.r⟩) (Nat.le_refl _) (Sem.of_body tysOk md0 Tryz.func10 rfl rfl ?_)
  repeat (first | refine BCase.yes rfl ?_ | refine BCase.no rfl ?_)
  exact ⟨rfl, Nat.le_of_ble_eq_true rfl, .inl rfl, .inl rfl, .inl rfl, .inl rfl, .inl rfl, .inl rfl, .inl rfl, trivial⟩
theorem pSetLast (p : Pg) (h : p.ok) (r l : Int) : Eff Tryz.prog 62 [.ptr 0 0, .int .i32 r, .int .u8 l] (pgB p) (pgB { p with last := r, known := join2 l p.a.base }) (.tup []) := by
  refine Eff.of rfl rfl (pgB_ok p h) (pgB_ok _ ⟨h.r⟩) (Nat.le_refl _) (Sem.of_body tysOk md0 Tryz.func62 rfl rfl ?_)
  repeat (first | refine BCase.yes rfl ?_ | refine BCase.no rfl ?_)
  refine (join2_fn l p.a.base).sem _ ?_
  exact ⟨rfl, Nat.le_of_ble_eq_true rfl, .inl rfl, .inl rfl, .inl rfl, .inl rfl, .inl rfl, .inl rfl, .inl rfl, trivial⟩
theorem pPlace (p : Pg) (h : p.ok) (ha : p.a.ok) (c : Cu) : Eff Tryz.prog 24 [.ptr 0 0, c.v] (pgB p) (pgB { p with c := withinS p.a c }) (.tup []) := by
  refine Eff.of rfl rfl (pgB_ok p h) (pgB_ok _ ⟨h.r⟩) (Nat.le_refl _) (Sem.of_body tysOk md0 Tryz.func24 rfl rfl ?_)
  repeat (first | refine BCase.yes rfl ?_ | refine BCase.no rfl ?_)
  refine DrawP.intro tysOk mixed false ?_
  refine ⟨_, (withinA_fn p.a ha c).callT _ _, ?_⟩
  refine ⟨by kernel_rfl, ?_⟩
  exact ⟨rfl, Nat.le_of_ble_eq_true rfl, .inl rfl, .inl rfl, .inl rfl, .inl rfl, .inl rfl, .inl rfl, .inl rfl, trivial⟩
end Go.Cx
namespace Go.Cx
open Go.Proofs Go.Row
set_option maxRecDepth 100000
set_option maxHeartbeats 8000000
/-! ### Pages: cells are put -/
def shG (p : Pg) : Gr := if isOf p.m ⟨true, 47⟩ then p.g1 else p.g0
def setG (p : Pg) (g : Gr) : Pg := if isOf p.m ⟨true, 47⟩ then { p with g1 := g } else { p with g0 := g }
theorem setG_r (p : Pg) (g : Gr) : (setG p g).r = p.r := by unfold setG; split <;> rfl
theorem setG_ok {p : Pg} (h : p.ok) (g : Gr) : (setG p g).ok := ⟨by rw [setG_r]; exact h.r⟩
theorem pPut (p : Pg) (h : p.ok) (hg : (shG p).ok) (i j : Int) (c : Cl) (w : Bool) : Eff Tryz.prog 65 [.ptr 0 0, posV i j, Cl.v c, .bool w] (pgB p) (pgB (setG p (atG (shG p) i j fun r => rputI r j c w))) (.tup []) := by
  have hp := pGrid p h
  refine Eff.of rfl rfl (pgB_ok p h) (pgB_ok _ (setG_ok h _)) (by unfold setG; split <;> exact Nat.le_refl _) ?_
  cases hm : isOf p.m ⟨true, 47⟩ with
  | true =>
    have hb : shB p = 3 := by unfold shB; rw [hm]; rfl
    have e1 : shG p = p.g1 := by unfold shG; rw [hm]; rfl
    have e2 : ∀ g, setG p g = { p with g1 := g } := fun g => by unfold setG; rw [hm]; rfl
    rw [e1] at hg ⊢
    rw [e2]
    rw [hb] at hp
    have hs := gPut p.g1 hg i j c w
    generalize (atG p.g1 i j fun r => rputI r j c w) = G at hs ⊢
    refine Sem.of_body tysOk md0 Tryz.func65 rfl rfl ?_
    repeat (first | refine BCase.yes rfl ?_ | refine BCase.no rfl ?_)
    refine DrawP.intro tysOk mixed false ?_
    refine ⟨_, hp.hereR [0, 1, 2, 3, 4, 5, 6] [_, _] 9 rfl rfl rfl, ?_⟩
    refine ⟨_, hs.callT [3, 4] 9 rfl rfl (by decide) rfl rfl, ?_⟩
    refine ⟨by kernel_rfl, ?_⟩
    exact ⟨rfl, Nat.le_of_ble_eq_true rfl, .inl rfl, .inl rfl, .inl rfl, .inl rfl, .inl rfl, .inl rfl, .inl rfl, trivial⟩
  | false =>
    have hb : shB p = 1 := by unfold shB; rw [hm]; rfl
    have e1 : shG p = p.g0 := by unfold shG; rw [hm]; rfl
    have e2 : ∀ g, setG p g = { p with g0 := g } := fun g => by unfold setG; rw [hm]; rfl
    rw [e1] at hg ⊢
    rw [e2]
    rw [hb] at hp
    have hs := gPut p.g0 hg i j c w
    generalize (atG p.g0 i j fun r => rputI r j c w) = G at hs ⊢
    refine Sem.of_body tysOk md0 Tryz.func65 rfl rfl ?_
    repeat (first | refine BCase.yes rfl ?_ | refine BCase.no rfl ?_)
    refine DrawP.intro tysOk mixed false ?_
    refine ⟨_, hp.hereR [0, 1, 2, 3, 4, 5, 6] [_, _] 9 rfl rfl rfl, ?_⟩
    refine ⟨_, hs.callT [1, 2] 9 rfl rfl (by decide) rfl rfl, ?_⟩
    refine ⟨by kernel_rfl, ?_⟩
    exact ⟨rfl, Nat.le_of_ble_eq_true rfl, .inl rfl, .inl rfl, .inl rfl, .inl rfl, .inl rfl, .inl rfl, .inl rfl, trivial⟩
theorem pMark (p : Pg) (h : p.ok) (hg : (shG p).ok) (i j m l : Int) : Eff Tryz.prog 101 [.ptr 0 0, posV i j, .int .i32 m, .int .u8 l] (pgB p) (pgB (setG p (atG (shG p) i j fun r => rmark r j m l))) (.tup []) := by
  have hp := pGrid p h
  refine Eff.of rfl rfl (pgB_ok p h) (pgB_ok _ (setG_ok h _)) (by unfold setG; split <;> exact Nat.le_refl _) ?_
  cases hm : isOf p.m ⟨true, 47⟩ with
  | true =>
    have hb : shB p = 3 := by unfold shB; rw [hm]; rfl
    have e1 : shG p = p.g1 := by unfold shG; rw [hm]; rfl
    have e2 : ∀ g, setG p g = { p with g1 := g } := fun g => by unfold setG; rw [hm]; rfl
    rw [e1] at hg ⊢
    rw [e2]
    rw [hb] at hp
    have hs := gMark p.g1 hg i j m l
    generalize (atG p.g1 i j fun r => rmark r j m l) = G at hs ⊢
    refine Sem.of_body tysOk md0 Tryz.func101 rfl rfl ?_
    repeat (first | refine BCase.yes rfl ?_ | refine BCase.no rfl ?_)
    refine DrawP.intro tysOk mixed false ?_
    refine ⟨_, hp.hereR [0, 1, 2, 3, 4, 5, 6] [_] 8 rfl rfl rfl, ?_⟩
    refine ⟨_, hs.callT [3, 4] 8 rfl rfl (by decide) rfl rfl, ?_⟩
    refine ⟨by kernel_rfl, ?_⟩
    exact ⟨rfl, Nat.le_of_ble_eq_true rfl, .inl rfl, .inl rfl, .inl rfl, .inl rfl, .inl rfl, .inl rfl, .inl rfl, trivial⟩
  | false =>
    have hb : shB p = 1 := by unfold shB; rw [hm]; rfl
    have e1 : shG p = p.g0 := by unfold shG; rw [hm]; rfl
    have e2 : ∀ g, setG p g = { p with g0 := g } := fun g => by unfold setG; rw [hm]; rfl
    rw [e1] at hg ⊢
    rw [e2]
    rw [hb] at hp
    have hs := gMark p.g0 hg i j m l
    generalize (atG p.g0 i j fun r => rmark r j m l) = G at hs ⊢
    refine Sem.of_body tysOk md0 Tryz.func101 rfl rfl ?_
    repeat (first | refine BCase.yes rfl ?_ | refine BCase.no rfl ?_)
    refine DrawP.intro tysOk mixed false ?_
    refine ⟨_, hp.hereR [0, 1, 2, 3, 4, 5, 6] [_] 8 rfl rfl rfl, ?_⟩
    refine ⟨_, hs.callT [1, 2] 8 rfl rfl (by decide) rfl rfl, ?_⟩
    refine ⟨by kernel_rfl, ?_⟩
    exact ⟨rfl, Nat.le_of_ble_eq_true rfl, .inl rfl, .inl rfl, .inl rfl, .inl rfl, .inl rfl, .inl rfl, .inl rfl, trivial⟩
end Go.Cx
namespace Go.Cx
open Go.Proofs Go.Row
set_option maxRecDepth 100000
set_option maxHeartbeats 8000000
/-! ### Pages: a level comes -/
theorem ls_mv (r : Rg) (n : Nat) : (r.ls 0).mv (iot [5, 6] n) = r.ls 5 := by
  unfold Rg.ls
  cases r.lines <;> rfl
theorem rgB_mv (r : Rg) (n : Nat) : (hpOf (rgB r)).map (Blk.mv (iot [5, 6] n)) = [some (.cells 110 (rgC 5 r)), some (rgL r)] := by
  show [some (Blk.cells 110 [(r.ls 0).mv (iot [5, 6] n), .int .i64 r.first, .int .i64 r.most, .int .u8 r.lab]), some (rgL r)] = _
  rw [ls_mv]
  rfl
def touchS (p : Pg) (l : Int) : Pg :=
  if flowsB (join2 p.c.lab l) p.a.base then p
  else { setG p (mapG (shG p) fun r => raiseR r (join2 p.c.lab l)) with c := labS p.c (join2 p.c.lab (join2 p.c.lab l)), known := join2 p.known (join2 p.c.lab l), r := rgRaised p.r (join2 p.c.lab l) }
theorem rgRaised_ok {r : Rg} (h : r.ok) (l : Int) : (rgRaised r l).ok := ⟨h.gh, h.most, h.len, h.first⟩
theorem pTouch (p : Pg) (h : p.ok) (hg : (shG p).ok) (l : Int) : Eff Tryz.prog 58 [.ptr 0 0, .psl 1 [[.int .u8 l]] .exact] (pgB p) (pgB (touchS p l)) (.int .u8 (join2 p.c.lab l)) := by
  have hp := pGrid p h
  refine Eff.of rfl rfl (pgB_ok p h) (pgB_ok _ ?_) (by unfold touchS; split <;> exact Nat.le_refl _) ?_
  · unfold touchS
    split
    · exact h
    · exact ⟨rgRaised_ok h.r _⟩
  unfold touchS
  generalize he : join2 p.c.lab l = e
  refine Sem.of_body tysOk md0 Tryz.func58 rfl rfl ?_
  repeat (first | refine BCase.yes rfl ?_ | refine BCase.no rfl ?_)
  have hr := raise1_fn p.c l
  rw [he] at hr
  refine hr.sem _ ?_
  refine (flows_fn e p.a.base).sem _ ?_
  refine ⟨fun hf => ?_, fun hf => ?_⟩
  · have hf : (!flowsB e p.a.base) = true := hf
    have hf : flowsB e p.a.base = false := by cases hq : flowsB e p.a.base <;> rw [hq] at hf <;> first | rfl | cases hf
    rw [hf]
    cases hm : isOf p.m ⟨true, 47⟩ with
    | true =>
      have hb : shB p = 3 := by unfold shB; rw [hm]; rfl
      have e1 : shG p = p.g1 := by unfold shG; rw [hm]; rfl
      have e2 : ∀ g, setG p g = { p with g1 := g } := fun g => by unfold setG; rw [hm]; rfl
      rw [e1] at hg ⊢
      rw [e2]
      rw [hb] at hp
      have hs := gRaise p.g1 hg e
      generalize (mapG p.g1 fun r => raiseR r e) = G at hs ⊢
      refine hp.here rfl [] rfl ?_
      refine hs.call [3, 4] 7 rfl rfl (by decide) rfl rfl ?_
      refine (raise1_fn p.c e).sem _ ?_
      refine (join2_fn p.known e).sem _ ?_
      refine (rgRaise p.r h.r e).call [5, 6] 7 rfl rfl (by decide) rfl (rgB_mv p.r 7).symm ?_
      rw [rgB_mv]
      exact ⟨rfl, Nat.le_of_ble_eq_true rfl, .inl rfl, .inl rfl, .inl rfl, .inl rfl, .inl rfl, .inl rfl, .inl rfl, trivial⟩
    | false =>
      have hb : shB p = 1 := by unfold shB; rw [hm]; rfl
      have e1 : shG p = p.g0 := by unfold shG; rw [hm]; rfl
      have e2 : ∀ g, setG p g = { p with g0 := g } := fun g => by unfold setG; rw [hm]; rfl
      rw [e1] at hg ⊢
      rw [e2]
      rw [hb] at hp
      have hs := gRaise p.g0 hg e
      generalize (mapG p.g0 fun r => raiseR r e) = G at hs ⊢
      refine hp.here rfl [] rfl ?_
      refine hs.call [1, 2] 7 rfl rfl (by decide) rfl rfl ?_
      refine (raise1_fn p.c e).sem _ ?_
      refine (join2_fn p.known e).sem _ ?_
      refine (rgRaise p.r h.r e).call [5, 6] 7 rfl rfl (by decide) rfl (rgB_mv p.r 7).symm ?_
      rw [rgB_mv]
      exact ⟨rfl, Nat.le_of_ble_eq_true rfl, .inl rfl, .inl rfl, .inl rfl, .inl rfl, .inl rfl, .inl rfl, .inl rfl, trivial⟩
  · have hf : (!flowsB e p.a.base) = false := hf
    have hf : flowsB e p.a.base = true := by cases hq : flowsB e p.a.base <;> rw [hq] at hf <;> first | rfl | cases hf
    rw [hf]
    exact ⟨rfl, Nat.le_of_ble_eq_true rfl, .inl rfl, .inl rfl, .inl rfl, .inl rfl, .inl rfl, .inl rfl, .inl rfl, trivial⟩
end Go.Cx
namespace Go.Cx
open Go.Proofs Go.Row
set_option maxRecDepth 100000
set_option maxHeartbeats 8000000
/-! ### Pages: blanks are put in -/
theorem pInsert (p : Pg) (h : p.ok) (hg : (shG p).ok) (i j n l : Int) : Eff Tryz.prog 112 [.ptr 0 0, posV i j, .int .i64 n, .int .u8 l] (pgB p) (pgB (setG p (atG (shG p) i j fun r => rinsI r j n (blankOf p.at_ l)))) (.tup []) := by
  have hp := pGrid p h
  refine Eff.of rfl rfl (pgB_ok p h) (pgB_ok _ (setG_ok h _)) (by unfold setG; split <;> exact Nat.le_refl _) ?_
  cases hm : isOf p.m ⟨true, 47⟩ with
  | true =>
    have hb : shB p = 3 := by unfold shB; rw [hm]; rfl
    have e1 : shG p = p.g1 := by unfold shG; rw [hm]; rfl
    have e2 : ∀ g, setG p g = { p with g1 := g } := fun g => by unfold setG; rw [hm]; rfl
    rw [e1] at hg ⊢
    rw [e2]
    rw [hb] at hp
    have hs := gInsert p.g1 hg i j n (blankOf p.at_ l)
    generalize (atG p.g1 i j fun r => rinsI r j n (blankOf p.at_ l)) = G at hs ⊢
    refine Sem.of_body tysOk md0 Tryz.func112 rfl rfl ?_
    repeat (first | refine BCase.yes rfl ?_ | refine BCase.no rfl ?_)
    refine DrawP.intro tysOk mixed false ?_
    refine ⟨_, hp.hereR [0, 1, 2, 3, 4, 5, 6] [_] 8 rfl rfl rfl, ?_⟩
    refine ⟨_, (pBlank p h l).hereR [0, 1, 2, 3, 4, 5, 6] [_] 8 rfl rfl rfl, ?_⟩
    refine ⟨_, hs.callT [3, 4] 8 rfl rfl (by decide) rfl rfl, ?_⟩
    refine ⟨by kernel_rfl, ?_⟩
    exact ⟨rfl, Nat.le_of_ble_eq_true rfl, .inl rfl, .inl rfl, .inl rfl, .inl rfl, .inl rfl, .inl rfl, .inl rfl, trivial⟩
  | false =>
    have hb : shB p = 1 := by unfold shB; rw [hm]; rfl
    have e1 : shG p = p.g0 := by unfold shG; rw [hm]; rfl
    have e2 : ∀ g, setG p g = { p with g0 := g } := fun g => by unfold setG; rw [hm]; rfl
    rw [e1] at hg ⊢
    rw [e2]
    rw [hb] at hp
    have hs := gInsert p.g0 hg i j n (blankOf p.at_ l)
    generalize (atG p.g0 i j fun r => rinsI r j n (blankOf p.at_ l)) = G at hs ⊢
    refine Sem.of_body tysOk md0 Tryz.func112 rfl rfl ?_
    repeat (first | refine BCase.yes rfl ?_ | refine BCase.no rfl ?_)
    refine DrawP.intro tysOk mixed false ?_
    refine ⟨_, hp.hereR [0, 1, 2, 3, 4, 5, 6] [_] 8 rfl rfl rfl, ?_⟩
    refine ⟨_, (pBlank p h l).hereR [0, 1, 2, 3, 4, 5, 6] [_] 8 rfl rfl rfl, ?_⟩
    refine ⟨_, hs.callT [1, 2] 8 rfl rfl (by decide) rfl rfl, ?_⟩
    refine ⟨by kernel_rfl, ?_⟩
    exact ⟨rfl, Nat.le_of_ble_eq_true rfl, .inl rfl, .inl rfl, .inl rfl, .inl rfl, .inl rfl, .inl rfl, .inl rfl, trivial⟩
end Go.Cx
namespace Go.Cx
open Go.Proofs Go.Row
set_option maxRecDepth 100000
set_option maxHeartbeats 8000000
/-! ### Pages: margins -/
theorem marginsS_ok {a : Ar} (ha : a.ok) (t b : Int) : (marginsS a t b).1.ok := by
  have h1 := ha.r1
  have h2 := ha.r2
  have h3 := ha.c1
  have h4 := ha.c2
  unfold marginsS
  generalize (if b < 1 then a.rows else b) = x
  split
  · exact ha
  · rename_i hlt
    exact ⟨h1, h2, h3, h4, by show 0 ≤ max t 1 - 1; omega, by show min x a.rows - 1 < a.rows; omega, .inl (by show max t 1 - 1 < min x a.rows - 1; omega), ha.l1, ha.l2⟩
def pMarginsS (p : Pg) (t b : Int) : Pg := if (marginsS p.a t b).2 then { p with a := (marginsS p.a t b).1, c := gotoS (marginsS p.a t b).1 1 1 } else p
theorem pMargins (p : Pg) (h : p.ok) (ha : p.a.ok) (t b : Int) : Eff Tryz.prog 53 [.ptr 0 0, .int .i64 t, .int .i64 b] (pgB p) (pgB (pMarginsS p t b)) (.bool (marginsS p.a t b).2) := by
  refine Eff.of rfl rfl (pgB_ok p h) (pgB_ok _ ?_) (by unfold pMarginsS; split <;> exact Nat.le_refl _) ?_
  · unfold pMarginsS; split
    · exact ⟨h.r⟩
    · exact h
  have hm := margins_fn p.a ha t b
  have hok := marginsS_ok ha t b
  unfold pMarginsS
  generalize marginsS p.a t b = m at hm hok ⊢
  obtain ⟨a', is⟩ := m
  refine Sem.of_body tysOk md0 Tryz.func53 rfl rfl ?_
  repeat (first | refine BCase.yes rfl ?_ | refine BCase.no rfl ?_)
  refine hm.sem _ ?_
  cases is with
  | true =>
    refine BCase.yes rfl ?_
    refine DrawP.intro tysOk mixed false ?_
    refine ⟨_, (home_fn a' hok).callT _ _, ?_⟩
    refine ⟨by kernel_rfl, ?_⟩
    exact ⟨rfl, Nat.le_of_ble_eq_true rfl, .inl rfl, .inl rfl, .inl rfl, .inl rfl, .inl rfl, .inl rfl, .inl rfl, trivial⟩
  | false =>
    refine BCase.no rfl ?_
    exact ⟨rfl, Nat.le_of_ble_eq_true rfl, .inl rfl, .inl rfl, .inl rfl, .inl rfl, .inl rfl, .inl rfl, .inl rfl, trivial⟩
end Go.Cx
namespace Go.Cx
open Go.Proofs Go.Row
set_option maxRecDepth 100000
set_option maxHeartbeats 8000000
/-! ### Pages: scrolled up by one row -/
def upG (g : Gr) (t bt : Nat) (b : Cl) : Gr := { g with rows := upRows g.rows t (bt + 1 - t) 1 (List.replicate g.cols b) }
def pushR (r : Rg) (x : List Cl) : Rg := if r.most = 0 then r else push1 r x
theorem pushR_ok {r : Rg} (h : r.ok) (x : List Cl) : (pushR r x).ok := by
  unfold pushR
  split
  · exact h
  · exact push1_ok r h x (by omega)
def up1S (p : Pg) (t bt : Nat) (l : Int) (x : List Cl) : Pg :=
  let p1 := setG p (upG (shG p) t bt (blankOf p.at_ l))
  if t = 0 ∧ isOf p.m ⟨true, 47⟩ = false then { p1 with r := pushR p.r x } else p1
theorem take1 {l : List (List Cl)} {t : Nat} {x : List Cl} (h : l[t]? = some x) : (l.drop t).take 1 = [x] := by
  obtain ⟨h1, h2⟩ := List.getElem?_eq_some_iff.1 h
  rw [List.drop_eq_getElem_cons h1, h2]; rfl
theorem pUp1 (p : Pg) (h : p.ok) (hg : (shG p).ok) (t bt : Nat) (ht : t ≤ bt) (hb : bt < (shG p).rows.length) (l : Int) (x : List Cl) (hx : (shG p).rows[t]? = some x) :
    Eff Tryz.prog 141 [.ptr 0 0, .int .i64 t, .int .i64 bt, .int .i64 1, .int .u8 l] (pgB p) (pgB (up1S p t bt l x)) (.tup []) := by
  have hp := pGrid p h
  have hsh := pShown p h
  have hs := gUp (shG p) hg t bt ht hb 1 (by omega) (blankOf p.at_ l) (bt + 1 - t) 1 rfl (by omega)
  rw [take1 hx] at hs
  have hxl : x.length = (shG p).cols := hg.len x (List.mem_of_getElem? hx)
  have hx0 : x ≠ [] := fun e => by have := hg.c1; rw [e] at hxl; simp at hxl; omega
  have hx1 : x.length < 1000000 := by have := hg.c2; omega
  have hpu := rgPush p.r h.r x hx0 hx1
  refine Eff.of rfl rfl (pgB_ok p h) (pgB_ok _ ?_) (by unfold up1S setG; split <;> split <;> exact Nat.le_refl _) ?_
  · unfold up1S
    simp only
    split
    · exact ⟨pushR_ok h.r x⟩
    · exact setG_ok h _
  unfold up1S
  simp only
  change Eff Tryz.prog 160 _ _ (grB (upG (shG p) t bt (blankOf p.at_ l))) _ at hs
  generalize upG (shG p) t bt (blankOf p.at_ l) = G at hs ⊢
  cases hm : isOf p.m ⟨true, 47⟩ with
  | true =>
    have hb : shB p = 3 := by unfold shB; rw [hm]; rfl
    have e1 : shG p = p.g1 := by unfold shG; rw [hm]; rfl
    have e2 : ∀ g, setG p g = { p with g1 := g } := fun g => by unfold setG; rw [hm]; rfl
    rw [e1] at hs
    rw [e2]
    rw [hb] at hp
    rw [hm] at hsh
    rw [if_neg (fun e => by cases e.2)]
    refine Sem.of_body tysOk md0 Tryz.func141 rfl rfl ?_
    repeat (first | refine BCase.yes rfl ?_ | refine BCase.no rfl ?_)
    refine hp.here rfl [] rfl ?_
    refine (pBlank p h l).here rfl [] rfl ?_
    refine hs.call [3, 4] 7 rfl rfl (by decide) rfl rfl ?_
    have hsh' : Eff Tryz.prog 81 [.ptr 0 0] (pgB { p with g1 := G }) (pgB { p with g1 := G }) (.int .i64 1) := by
      have := pShown { p with g1 := G } ⟨h.r⟩
      rw [hm] at this
      exact this
    refine ⟨fun h0 => ?_, fun h0 => ?_⟩
    · repeat (first | refine BCase.yes rfl ?_ | refine BCase.no rfl ?_)
      refine hsh'.here rfl [] rfl ?_
      repeat (first | refine BCase.yes rfl ?_ | refine BCase.no rfl ?_)
      exact ⟨rfl, Nat.le_of_ble_eq_true rfl, .inl rfl, .inl rfl, .inl rfl, .inl rfl, .inl rfl, .inl rfl, .inl rfl, trivial⟩
    · repeat (first | refine BCase.yes rfl ?_ | refine BCase.no rfl ?_)
      exact ⟨rfl, Nat.le_of_ble_eq_true rfl, .inl rfl, .inl rfl, .inl rfl, .inl rfl, .inl rfl, .inl rfl, .inl rfl, trivial⟩
  | false =>
    have hb : shB p = 1 := by unfold shB; rw [hm]; rfl
    have e1 : shG p = p.g0 := by unfold shG; rw [hm]; rfl
    have e2 : ∀ g, setG p g = { p with g0 := g } := fun g => by unfold setG; rw [hm]; rfl
    rw [e1] at hs
    rw [e2]
    rw [hb] at hp
    refine Sem.of_body tysOk md0 Tryz.func141 rfl rfl ?_
    repeat (first | refine BCase.yes rfl ?_ | refine BCase.no rfl ?_)
    refine hp.here rfl [] rfl ?_
    refine (pBlank p h l).here rfl [] rfl ?_
    refine hs.call [1, 2] 7 rfl rfl (by decide) rfl rfl ?_
    have hsh' : Eff Tryz.prog 81 [.ptr 0 0] (pgB { p with g0 := G }) (pgB { p with g0 := G }) (.int .i64 0) := by
      have := pShown { p with g0 := G } ⟨h.r⟩
      rw [hm] at this
      exact this
    refine ⟨fun h0 => ?_, fun h0 => ?_⟩
    · have h0 : ((t : Int) == 0) = true := h0
      have h0 : t = 0 := by have := beq_iff_eq.1 h0; omega
      rw [if_pos ⟨h0, rfl⟩]
      repeat (first | refine BCase.yes rfl ?_ | refine BCase.no rfl ?_)
      refine hsh'.here rfl [] rfl ?_
      repeat (first | refine BCase.yes rfl ?_ | refine BCase.no rfl ?_)
      change Eff Tryz.prog 161 _ (rgB p.r) (rgB (pushR p.r x)) _ at hpu
      generalize pushR p.r x = R at hpu ⊢
      refine hpu.call [5, 6] 7 rfl rfl (by decide) rfl (rgB_mv p.r 7).symm ?_
      rw [rgB_mv]
      exact ⟨rfl, Nat.le_of_ble_eq_true rfl, .inl rfl, .inl rfl, .inl rfl, .inl rfl, .inl rfl, .inl rfl, .inl rfl, trivial⟩
    · have h0 : ((t : Int) == 0) = false := h0
      have h0 : ¬ t = 0 := fun e => by subst e; cases h0
      rw [if_neg (fun e => h0 e.1)]
      repeat (first | refine BCase.yes rfl ?_ | refine BCase.no rfl ?_)
      exact ⟨rfl, Nat.le_of_ble_eq_true rfl, .inl rfl, .inl rfl, .inl rfl, .inl rfl, .inl rfl, .inl rfl, .inl rfl, trivial⟩
end Go.Cx
namespace Go.Cx
open Go.Proofs Go.Row
set_option maxRecDepth 100000
set_option maxHeartbeats 8000000
/-! ### Pages: modes, attribute -/
theorem pModes (p : Pg) (h : p.ok) : Eff Tryz.prog 102 [.ptr 0 0] (pgB p) (pgB p) (wV p.m.toNat) := by
  have hok := pgB_ok p h
  refine Eff.of rfl rfl hok hok (Nat.le_refl _) (Sem.of_body tysOk md0 Tryz.func102 rfl rfl ?_)
  refine Sem.of_body tysOk md0 Tryz.func137 rfl rfl ?_
  repeat (first | refine BCase.yes rfl ?_ | refine BCase.no rfl ?_)
  refine Sem.of_body tysOk md0 Tryz.func138 rfl rfl ?_
  exact ⟨rfl, Nat.le_of_ble_eq_true rfl, .inl rfl, .inl rfl, .inl rfl, .inl rfl, .inl rfl, .inl rfl, .inl rfl, trivial⟩
theorem pAttr (p : Pg) (h : p.ok) : Eff Tryz.prog 113 [.ptr 0 0] (pgB p) (pgB p) (At.v p.at_) := by
  have hok := pgB_ok p h
  refine Eff.of rfl rfl hok hok (Nat.le_refl _) (Sem.of_body tysOk md0 Tryz.func113 rfl rfl ?_)
  refine Sem.of_body tysOk md0 Tryz.func144 rfl rfl ?_
  repeat (first | refine BCase.yes rfl ?_ | refine BCase.no rfl ?_)
  refine Sem.of_body tysOk md0 Tryz.func145 rfl rfl ?_
  exact ⟨rfl, Nat.le_of_ble_eq_true rfl, .inl rfl, .inl rfl, .inl rfl, .inl rfl, .inl rfl, .inl rfl, .inl rfl, trivial⟩
end Go.Cx
namespace Go.Cx
open Go.Proofs Go.Row
set_option maxRecDepth 100000
set_option maxHeartbeats 8000000
/-! ### Pages: a mode is put -/
theorem mPut1 (on : Bool) (m : BitVec 16) (x : Md) : Fn Tryz.prog 55 [wV m.toNat, .bool on, .psl 2 [mdC x] .exact] (.tup [wV (putOf on m [x]).1.toNat, .int .i64 ((putOf on m [x]).2 : Nat)]) := by
  refine (mPut on m [x] (Nat.lt_of_lt_of_le (Nat.lt_succ_self 1) (by decide))).argsT ?_ rfl
  exact ⟨.inl rfl, .inl rfl, forgT_psl, trivial⟩
def pModeS (p : Pg) (on : Bool) (x : Md) : Pg :=
  if x = ⟨true, 6⟩ then { p with m := (putOf on p.m [x]).1, a := { p.a with org := on }, c := gotoS { p.a with org := on } 1 1 } else { p with m := (putOf on p.m [x]).1 }
theorem pMode (p : Pg) (h : p.ok) (ha : p.a.ok) (on : Bool) (x : Md) : Eff Tryz.prog 23 [.ptr 0 0, .bool on, .psl 2 [mdC x] .exact] (pgB p) (pgB (pModeS p on x)) (.tup []) := by
  refine Eff.of rfl rfl (pgB_ok p h) (pgB_ok _ ?_) (by unfold pModeS; split <;> exact Nat.le_refl _) ?_
  · unfold pModeS; split <;> exact ⟨h.r⟩
  have hs := mPut1 on p.m x
  unfold pModeS
  generalize putOf on p.m [x] = w at hs ⊢
  obtain ⟨m', k⟩ := w
  refine Sem.of_body tysOk md0 Tryz.func23 rfl rfl ?_
  repeat (first | refine BCase.yes rfl ?_ | refine BCase.no rfl ?_)
  refine LoopP.unroll ?_
  refine BCase.yes rfl ?_
  refine ⟨mdC x, ⟨by decide, rfl⟩, gdP rfl ?_⟩
  refine DrawP.intro tysOk mixed false ?_
  refine ⟨_, hs.callT _ _, ?_⟩
  refine ⟨by kernel_rfl, ?_⟩
  refine ⟨fun he => ?_, fun he => ?_⟩
  · have he : (x.p == true && (x.n == 6 && true)) = true := he
    obtain ⟨xp, xn⟩ := x
    simp only [Bool.and_true, Bool.and_eq_true, beq_iff_eq] at he
    obtain ⟨rfl, rfl⟩ := he
    rw [if_pos rfl]
    have hok : Ar.ok { p.a with org := on } := ⟨ha.r1, ha.r2, ha.c1, ha.c2, ha.t, ha.b, ha.tb, ha.l1, ha.l2⟩
    refine (home_fn { p.a with org := on } hok).sem _ ?_
    refine LoopP.unroll ?_
    refine BCase.no rfl ?_
    exact ⟨rfl, Nat.le_of_ble_eq_true rfl, .inl rfl, .inl rfl, .inl rfl, .inl rfl, .inl rfl, .inl rfl, .inl rfl, trivial⟩
  · have he : (x.p == true && (x.n == 6 && true)) = false := he
    rw [if_neg (fun e => by subst e; cases he)]
    refine LoopP.unroll ?_
    refine BCase.no rfl ?_
    exact ⟨rfl, Nat.le_of_ble_eq_true rfl, .inl rfl, .inl rfl, .inl rfl, .inl rfl, .inl rfl, .inl rfl, .inl rfl, trivial⟩
end Go.Cx
