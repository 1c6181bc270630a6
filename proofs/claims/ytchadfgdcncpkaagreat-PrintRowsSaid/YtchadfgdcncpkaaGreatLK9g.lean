/- What functions of this seat compute, each for every argument of the shapes that are named; no condition beside the stated ones. -/
import Derived.Test.YtchadfgdcncpkaaGreatLK2g
namespace Go.Cx
open Go.Proofs Go.Row
set_option maxRecDepth 100000
set_option maxHeartbeats 16000000
/-! ### A page behind another block -/
def pgC1 (b : Nat) (p : Pg) : List V := [.int .i64 p.a.rows, .int .i64 p.a.cols, .int .i64 p.a.top, .int .i64 p.a.bottom, .bool p.a.org, .int .u8 p.a.base, .int .i64 p.c.row, .int .i64 p.c.col, .bool p.c.wrap, .int .u8 p.c.lab, .ptr (b + 1) 0, .ptr (b + 3) 0, .ptr (b + 5) 0, .int .i64 p.room,
  .int .u64 (p.t.w 0 : Nat), .int .u64 (p.t.w 1 : Nat), .int .u64 (p.t.w 2 : Nat), .int .u64 (p.t.w 3 : Nat), .int .u64 (p.t.w 4 : Nat), .int .u64 (p.t.w 5 : Nat), .int .u64 (p.t.w 6 : Nat), .int .u64 (p.t.w 7 : Nat), .int .i64 p.t.cols, .int .u8 p.t.lab, .int .u8 p.t.base, .int .u16 (p.m.toNat : Int),
  .int .u8 p.at_.fk, .int .u8 p.at_.fr, .int .u8 p.at_.fg, .int .u8 p.at_.fb, .int .u8 p.at_.bk, .int .u8 p.at_.br, .int .u8 p.at_.bg, .int .u8 p.at_.bb, .int .u16 p.at_.fl, .int .i32 p.last, .int .u8 p.known]
def pgAt (b : Nat) (p : Pg) : Heap := [some (.cells 93 (pgC1 b p)), some (.cells 148 (grC (b + 1) p.g0)), some (grR p.g0), some (.cells 148 (grC (b + 3) p.g1)), some (grR p.g1), some (.cells 110 (rgC (b + 5) p.r)), some (rgL p.r)]
theorem rgC_mv (r : Rg) (f : Nat → Nat) (b : Nat) (h : f 6 = b + 6) : (rgC 5 r).map (V.mv f) = rgC (b + 5) r := by
  unfold rgC Rg.ls
  cases r.lines with
  | nil => rfl
  | cons x l =>
    show [V.gsl (f 6) 1 0 (l.length + 1) (l.length + 1) false r.ver, _, _, _] = [V.gsl (b + 5 + 1) 1 0 (l.length + 1) (l.length + 1) false r.ver, _, _, _]
    rw [h]
    rfl
theorem pgB_mv1 (p : Pg) (n : Nat) : (hpOf (pgB p)).map (Blk.mv (iot [1, 2, 3, 4, 5, 6, 7] n)) = pgAt 1 p := by
  have := rgC_mv p.r (iot [1, 2, 3, 4, 5, 6, 7] n) 1 rfl
  show [_, _, _, _, _, some (Blk.cells 110 ((rgC 5 p.r).map (V.mv (iot [1, 2, 3, 4, 5, 6, 7] n)))), _] = _
  rw [this]
  rfl
def stepsV (l : List Sp) : List (List V) := l.map Sp.cs
theorem stepsV_len (l : List Sp) : (stepsV l).length = l.length := by simp [stepsV]
theorem stepsV_get {l : List Sp} {i : Nat} {s : Sp} (h : l[i]? = some s) : (stepsV l)[i]? = some s.cs := by simp [stepsV, h]
def szB (a b c : Int) : Option Blk := some (.cells 22 [.int .u8 a, .int .u8 b, .int .u8 c])
def envWh (a b c : Int) (l : List Sp) (i : Nat) : List V := [.agg [.int .u8 a, .int .u8 b, .int .u8 c], .psl 13 (stepsV l) .any, .undef, .undef, .undef, .undef, .undef, .ptr 1 0, .int .i64 i] ++ List.replicate 64 .undef
theorem whole_law (hwk : Fn Tryz.prog 6 [] (.bool true)) (a b c : Int) (ha : u8r a) (hb : u8r b) (l : List Sp) (hl : l.length < 9223372036854775808) (hok : ∀ s ∈ l, s.ok) :
    Sem Tryz.prog 5 [.agg [.int .u8 a, .int .u8 b, .int .u8 c], .psl 13 (stepsV l) .any] [] fun v _ => v = .bool true := by
  have hm : mayB ((a % 7).toNat + 1 : Nat) ((b % 9).toNat + 1 : Nat) = true := decide_eq_true (by omega)
  have hc01 : 0 ≤ baseS c ∧ baseS c ≤ 1 := by unfold baseS; split <;> omega
  have hnew := pNew (a % 7).toNat ((b % 9).toNat + 1) hm (baseS c) hc01.1 hc01.2 5 (by decide)
  have hpw := newP_pw (a % 7).toNat ((b % 9).toNat + 1) hm hc01.1 hc01.2 5 (by decide)
  generalize newP (a % 7).toNat ((b % 9).toNat + 1) (baseS c) 5 = p0 at hnew hpw
  refine Sem.of_body tysOk md0 Tryz.func5 rfl rfl ?_
  refine hwk.sem _ ?_
  repeat (first | refine BCase.yes rfl ?_ | refine BCase.no rfl ?_)
  refine (sizeF ha hb).sem _ ?_
  refine (baseF c).sem _ ?_
  refine hnew.call [] 1 rfl rfl (by decide) rfl rfl ?_
  repeat (first | refine BCase.yes rfl ?_ | refine BCase.no rfl ?_)
  refine LoopP.inv (md := md0) (fun k env h => ∃ (i : Nat) (p : Pg), k = min l.length 60 - i ∧ i ≤ min l.length 60 ∧ PW 5 p ∧ env = envWh a b c l i ∧ h = szB a b c :: pgAt 1 p) (min l.length 60) ⟨envWh a b c l 0, _, .same (by repeat (first | exact trivial | refine ⟨.inl rfl, ?_⟩ | refine ⟨.inr rfl, ?_⟩)) ?_, 0, p0, rfl, Nat.zero_le _, hpw, rfl, rfl⟩ ?_
  · have e := rgC_mv p0.r (iot [] 1) 1 rfl
    show [szB a b c, _, _, _, _, _, _, _] = [_, _, _, _, _, _, some (Blk.cells 110 ((rgC 5 p0.r).map (V.mv (iot [] 1)))), _]
    rw [e]
    rfl
  rintro k _ _ ⟨i, p, rfl, hi, hp, rfl, rfl⟩
  refine ⟨fun hlt => ?_, fun hlt => ?_⟩
  · have hlt : (i : Int) < (stepsV l).length := of_decide_eq_true hlt
    rw [stepsV_len] at hlt
    repeat (first | refine BCase.yes rfl ?_ | refine BCase.no rfl ?_)
    refine ⟨fun h60 => ?_, fun h60 => ?_⟩
    · have h60 : (i : Int) < 60 := of_decide_eq_true h60
      obtain ⟨s, hs⟩ : ∃ s, l[i]? = some s := ⟨_, List.getElem?_eq_getElem (by omega)⟩
      obtain ⟨p', hp', hd⟩ := doesF hp s (hok s (List.mem_of_getElem? hs))
      have ok := hp'.i.ok
      have hla := pLast p' ok
      have hri := rightF p' hp'
      have hba := pBase p' ok
      have hli := pLines p' ok
      have hle := iLen p'.r
      have hlen : p'.r.lines.length ≤ 5 := by have := ok.r.len; rw [hp'.most] at this; exact this
      have hk0 : decide (p'.known < p'.a.base) = false := decide_eq_false (by have := hp'.k0; omega)
      unfold rgI at hli hle
      refine ⟨_, ⟨by omega, by rw [Int.toNat_natCast]; exact stepsV_get hs⟩, gdP rfl ?_⟩
      refine hd.call [1, 2, 3, 4, 5, 6, 7] 8 rfl rfl (by decide) rfl (pgB_mv1 p 8).symm ?_
      rw [pgB_mv1]
      refine hla.call [1, 2, 3, 4, 5, 6, 7] 8 rfl rfl (by decide) rfl (pgB_mv1 p' 8).symm ?_
      rw [pgB_mv1]
      refine hri.call [1, 2, 3, 4, 5, 6, 7] 8 rfl rfl (by decide) rfl (pgB_mv1 p' 8).symm ?_
      rw [pgB_mv1]
      repeat (first | refine BCase.yes rfl ?_ | refine BCase.no rfl ?_)
      by_cases hl0 : p'.last = 0
      · refine BCase.no (show (p'.last != 0) = false by rw [hl0]; rfl) ?_
        repeat (first | refine BCase.yes rfl ?_ | refine BCase.no rfl ?_)
        refine hba.call [1, 2, 3, 4, 5, 6, 7] 8 rfl rfl (by decide) rfl (pgB_mv1 p' 8).symm ?_
        rw [pgB_mv1]
        repeat (first | refine BCase.yes rfl ?_ | refine BCase.no rfl ?_)
        refine BCase.no hk0 ?_
        repeat (first | refine BCase.yes rfl ?_ | refine BCase.no rfl ?_)
        cases hln : p'.r.lines
        all_goals
          rw [hln] at hli hle hlen
          refine hli.call [1, 2, 3, 4, 5, 6, 7] 8 rfl rfl (by decide) rfl (pgB_mv1 p' 8).symm ?_
          rw [pgB_mv1]
          repeat (first | refine BCase.yes rfl ?_ | refine BCase.no rfl ?_)
          refine hle.sem _ ?_
          repeat (first | refine BCase.yes rfl ?_ | refine BCase.no rfl ?_)
          try refine BCase.no (decide_eq_false (p := ((List.length (_ :: _) : Nat) : Int) > 5) (by omega)) ?_
          refine ⟨min l.length 60 - (i + 1), envWh a b c l (i + 1), _, by omega, .same ?_ rfl, i + 1, p', rfl, by omega, hp', rfl, rfl⟩
          repeat (first | exact trivial | refine ⟨.inl rfl, ?_⟩ | refine ⟨.inl (congrArg (V.int .i64) (wrs i 1 (by omega)).symm), ?_⟩ | refine ⟨.inr rfl, ?_⟩)
      · refine BCase.yes (show (p'.last != 0) = true from bne_iff_ne.2 hl0) ?_
        have h32 : decide (p'.last < 32) = false := decide_eq_false (by rcases hp'.last with h | h <;> omega)
        repeat (first | refine BCase.yes rfl ?_ | refine BCase.no rfl ?_)
        refine BCase.no h32 ?_
        repeat (first | refine BCase.yes rfl ?_ | refine BCase.no rfl ?_)
        refine hba.call [1, 2, 3, 4, 5, 6, 7] 8 rfl rfl (by decide) rfl (pgB_mv1 p' 8).symm ?_
        rw [pgB_mv1]
        repeat (first | refine BCase.yes rfl ?_ | refine BCase.no rfl ?_)
        refine BCase.no hk0 ?_
        repeat (first | refine BCase.yes rfl ?_ | refine BCase.no rfl ?_)
        cases hln : p'.r.lines
        all_goals
          rw [hln] at hli hle hlen
          refine hli.call [1, 2, 3, 4, 5, 6, 7] 8 rfl rfl (by decide) rfl (pgB_mv1 p' 8).symm ?_
          rw [pgB_mv1]
          repeat (first | refine BCase.yes rfl ?_ | refine BCase.no rfl ?_)
          refine hle.sem _ ?_
          repeat (first | refine BCase.yes rfl ?_ | refine BCase.no rfl ?_)
          try refine BCase.no (decide_eq_false (p := ((List.length (_ :: _) : Nat) : Int) > 5) (by omega)) ?_
          refine ⟨min l.length 60 - (i + 1), envWh a b c l (i + 1), _, by omega, .same ?_ rfl, i + 1, p', rfl, by omega, hp', rfl, rfl⟩
          repeat (first | exact trivial | refine ⟨.inl rfl, ?_⟩ | refine ⟨.inl (congrArg (V.int .i64) (wrs i 1 (by omega)).symm), ?_⟩ | refine ⟨.inr rfl, ?_⟩)
    · have hi' : i = min l.length 60 := by have := of_decide_eq_false h60; omega
      repeat (first | refine BCase.yes rfl ?_ | refine BCase.no rfl ?_)
      rfl
  · have hi' : i = min l.length 60 := by have hlt := of_decide_eq_false hlt; rw [stepsV_len] at hlt; omega
    repeat (first | refine BCase.yes rfl ?_ | refine BCase.no rfl ?_)
    rfl
end Go.Cx
namespace Go.Cx
open Go.Proofs Go.Row
set_option maxRecDepth 100000
set_option maxHeartbeats 16000000
/-! ### Runes to bytes -/
def orB (a b : Int) : Int := IntKind.u8.wrap ((BitVec.ofInt IntKind.u8.bits a ||| BitVec.ofInt IntKind.u8.bits b).toNat : Int)
def andB (a b : Int) : Int := IntKind.u8.wrap ((BitVec.ofInt IntKind.u8.bits a &&& BitVec.ofInt IntKind.u8.bits b).toNat : Int)
def shrI (a k : Int) : Int := a.fdiv (2 ^ (min k.toNat IntKind.i32.bits))
def c8 (a : Int) : Int := IntKind.u8.wrap a
def tailB (r k : Int) : Int := orB 128 (andB (c8 (shrI r k)) 63)
def encB (r : Int) : List Int :=
  if IntKind.u32.wrap r ≤ 127 then [c8 r]
  else if IntKind.u32.wrap r ≤ 2047 then [orB 192 (c8 (shrI r 6)), orB 128 (andB (c8 r) 63)]
  else if IntKind.u32.wrap r < 55296 ∨ (57343 < IntKind.u32.wrap r ∧ IntKind.u32.wrap r ≤ 65535) then [orB 224 (c8 (shrI r 12)), tailB r 6, orB 128 (andB (c8 r) 63)]
  else if IntKind.u32.wrap r > 65535 ∧ IntKind.u32.wrap r ≤ 1114111 then [orB 240 (c8 (shrI r 18)), tailB r 12, tailB r 6, orB 128 (andB (c8 r) 63)]
  else [239, 191, 189]
def u8V (l : List Int) : List V := l.map fun n => .int .u8 n
theorem u8V_len (l : List Int) : (u8V l).length = l.length := by simp [u8V]
theorem u8V_app (a b : List Int) : u8V (a ++ b) = u8V a ++ u8V b := by simp [u8V]
theorem u8V_free (l : List Int) : (u8V l).all V.free1 = true := by
  rw [List.all_eq_true]; intro x hx
  obtain ⟨n, _, rfl⟩ := List.mem_map.1 hx; rfl
def bufG (ver : Nat) (l : List Int) : Blk := .grow ver 5 1 (u8V l)
theorem bufG_ok (ver : Nat) (l : List Int) (n : Nat) : [bufG ver l].all (Blk.okB n) = true := by
  show ((u8V l).all V.free1 && true) = true
  rw [u8V_free]; rfl
def gV (id n ver : Nat) : V := .gsl id 1 0 n n false ver
theorem encB_len (r : Int) : 1 ≤ (encB r).length ∧ (encB r).length ≤ 4 := by
  unfold encB
  split
  · exact ⟨by show 1 ≤ 1; decide, by show 1 ≤ 4; decide⟩
  · split
    · exact ⟨by show 1 ≤ 2; decide, by show 2 ≤ 4; decide⟩
    · split
      · exact ⟨by show 1 ≤ 3; decide, by show 3 ≤ 4; decide⟩
      · split
        · exact ⟨by show 1 ≤ 4; decide, by show 4 ≤ 4; decide⟩
        · exact ⟨by decide, by decide⟩
theorem encB_if {r : Int} (hr : ¬ IntKind.u32.wrap r ≤ 127) : encB r = (if IntKind.u32.wrap r ≤ 2047 then [orB 192 (c8 (shrI r 6)), orB 128 (andB (c8 r) 63)]
  else if IntKind.u32.wrap r < 55296 ∨ (57343 < IntKind.u32.wrap r ∧ IntKind.u32.wrap r ≤ 65535) then [orB 224 (c8 (shrI r 12)), tailB r 6, orB 128 (andB (c8 r) 63)]
  else if IntKind.u32.wrap r > 65535 ∧ IntKind.u32.wrap r ≤ 1114111 then [orB 240 (c8 (shrI r 18)), tailB r 12, tailB r 6, orB 128 (andB (c8 r) 63)]
  else [239, 191, 189]) := by unfold encB; rw [if_neg hr]
theorem aNon0 (r : Int) (hr : ¬ IntKind.u32.wrap r ≤ 127) : Eff Tryz.prog 150 [.nils, .int .i32 r] [] [bufG 0 (encB r)] (gV 0 (encB r).length 0) := by
  refine Eff.ofP rfl rfl rfl (bufG_ok _ _ _) (Nat.zero_le _) (Sem.of_body tysOk md1 Tryz.func150 rfl rfl ?_)
  rw [encB_if hr]
  refine ⟨fun h => ?_, fun h => ?_⟩
  · have h : IntKind.u32.wrap r ≤ 2047 := of_decide_eq_true h
    rw [if_pos h]
    exact ⟨[1], 2, rfl, by decide, fun i hi => absurd hi (Nat.not_lt_zero _), rfl, rfl⟩
  have h1 : ¬ IntKind.u32.wrap r ≤ 2047 := of_decide_eq_false h
  rw [if_neg h1]
  refine ⟨fun h => ?_, fun h => ?_⟩
  · have h : IntKind.u32.wrap r < 55296 := of_decide_eq_true h
    rw [if_pos (.inl h)]
    refine BCase.yes (decide_eq_true h) ?_
    exact ⟨[1], 2, rfl, by decide, fun i hi => absurd hi (Nat.not_lt_zero _), rfl, rfl⟩
  have h2 : ¬ IntKind.u32.wrap r < 55296 := of_decide_eq_false h
  refine ⟨fun h => ?_, fun h => ?_⟩
  · have h : 57343 < IntKind.u32.wrap r := of_decide_eq_true h
    repeat (first | refine BCase.yes rfl ?_ | refine BCase.no rfl ?_)
    refine ⟨fun h3 => ?_, fun h3 => ?_⟩
    · have h3 : IntKind.u32.wrap r ≤ 65535 := of_decide_eq_true h3
      rw [if_pos (.inr ⟨h, h3⟩)]
      exact ⟨[1], 2, rfl, by decide, fun i hi => absurd hi (Nat.not_lt_zero _), rfl, rfl⟩
    · have h3 : ¬ IntKind.u32.wrap r ≤ 65535 := of_decide_eq_false h3
      rw [if_neg (by omega)]
      refine BCase.yes (decide_eq_true (by omega)) ?_
      repeat (first | refine BCase.yes rfl ?_ | refine BCase.no rfl ?_)
      refine ⟨fun h4 => ?_, fun h4 => ?_⟩
      · have h4 : IntKind.u32.wrap r ≤ 1114111 := of_decide_eq_true h4
        rw [if_pos ⟨by omega, h4⟩]
        exact ⟨[1], 2, rfl, by decide, fun i hi => absurd hi (Nat.not_lt_zero _), rfl, rfl⟩
      · have h4 : ¬ IntKind.u32.wrap r ≤ 1114111 := of_decide_eq_false h4
        rw [if_neg (fun e => h4 e.2)]
        exact ⟨[1], 2, rfl, by decide, fun i hi => absurd hi (Nat.not_lt_zero _), rfl, rfl⟩
  · have h : ¬ 57343 < IntKind.u32.wrap r := of_decide_eq_false h
    repeat (first | refine BCase.yes rfl ?_ | refine BCase.no rfl ?_)
    rw [if_neg (by omega)]
    refine BCase.no (decide_eq_false (by omega)) ?_
    repeat (first | refine BCase.yes rfl ?_ | refine BCase.no rfl ?_)
    rw [if_neg (by omega)]
    exact ⟨[1], 2, rfl, by decide, fun i hi => absurd hi (Nat.not_lt_zero _), rfl, rfl⟩
theorem fits1 {n k : Nat} (hn : n < 10000000) (hk : k ≤ 4) : fitsB (⟨.int .u8, 1, 1, .int .u8 0⟩ : TI) (n + k) = true := by
  show (true && true && Nat.ble ((n + k) * 2) 281474976710656) = true
  rw [Nat.ble_eq_true_of_le (by omega)]; rfl
theorem aNon1 (bs : List Int) (hb : bs.length < 10000000) (ver : Nat) (r : Int) (hr : ¬ IntKind.u32.wrap r ≤ 127) : Eff Tryz.prog 150 [gV 0 bs.length ver, .int .i32 r] [bufG ver bs] [bufG (ver + 1) (bs ++ encB r)] (gV 0 (bs ++ encB r).length (ver + 1)) := by
  refine Eff.of rfl rfl (bufG_ok _ _ _) (bufG_ok _ _ _) (Nat.le_refl _) (Sem.of_body tysOk md1 Tryz.func150 rfl rfl ?_)
  rw [encB_if hr]
  have fin : ∀ l : List Int, V.gsl 0 1 0 (bs.length + l.length) (bs.length + l.length) false (ver + 1) = gV 0 (bs ++ l).length (ver + 1) ∧ some (bufG (ver + 1) (bs ++ l)) = some (Blk.grow (ver + 1) 5 1 (u8V bs ++ u8V l)) := fun l => by
    rw [List.length_append]
    refine ⟨rfl, ?_⟩
    unfold bufG
    rw [u8V_app]
  refine ⟨fun h => ?_, fun h => ?_⟩
  · have h : IntKind.u32.wrap r ≤ 2047 := of_decide_eq_true h
    rw [if_pos h]
    refine ⟨_, _, _, _, apGrow (x := .lsl 1 1 0 2 2) (el := ⟨true, 2, u8V [orB 192 (c8 (shrI r 6)), orB 128 (andB (c8 r) 63)], [1]⟩) (cs := u8V bs) rfl rfl rfl rfl rfl rfl rfl rfl rfl (by show 2 ≠ 0; decide) rfl (by show bs.length < bs.length + 2; omega) rfl (by rw [u8V_len]; show bs.length * 1 = _; omega) rfl rfl (fits1 hb (by show 2 ≤ 4; decide)) (fun _ _ e => by cases e), ?_⟩
    exact ⟨(fin [orB 192 (c8 (shrI r 6)), orB 128 (andB (c8 r) 63)]).1.symm ▸ rfl, Nat.le_of_ble_eq_true rfl, .inl (fin [orB 192 (c8 (shrI r 6)), orB 128 (andB (c8 r) 63)]).2, trivial⟩
  have h1 : ¬ IntKind.u32.wrap r ≤ 2047 := of_decide_eq_false h
  rw [if_neg h1]
  refine ⟨fun h => ?_, fun h => ?_⟩
  · have h : IntKind.u32.wrap r < 55296 := of_decide_eq_true h
    rw [if_pos (.inl h)]
    refine BCase.yes (decide_eq_true h) ?_
    refine ⟨_, _, _, _, apGrow (x := .lsl 1 1 0 3 3) (el := ⟨true, 3, u8V [orB 224 (c8 (shrI r 12)), tailB r 6, orB 128 (andB (c8 r) 63)], [1]⟩) (cs := u8V bs) rfl rfl rfl rfl rfl rfl rfl rfl rfl (by show 3 ≠ 0; decide) rfl (by show bs.length < bs.length + 3; omega) rfl (by rw [u8V_len]; show bs.length * 1 = _; omega) rfl rfl (fits1 hb (by show 3 ≤ 4; decide)) (fun _ _ e => by cases e), ?_⟩
    exact ⟨(fin [orB 224 (c8 (shrI r 12)), tailB r 6, orB 128 (andB (c8 r) 63)]).1.symm ▸ rfl, Nat.le_of_ble_eq_true rfl, .inl (fin [orB 224 (c8 (shrI r 12)), tailB r 6, orB 128 (andB (c8 r) 63)]).2, trivial⟩
  have h2 : ¬ IntKind.u32.wrap r < 55296 := of_decide_eq_false h
  refine ⟨fun h => ?_, fun h => ?_⟩
  · have h : 57343 < IntKind.u32.wrap r := of_decide_eq_true h
    repeat (first | refine BCase.yes rfl ?_ | refine BCase.no rfl ?_)
    refine ⟨fun h3 => ?_, fun h3 => ?_⟩
    · have h3 : IntKind.u32.wrap r ≤ 65535 := of_decide_eq_true h3
      rw [if_pos (.inr ⟨h, h3⟩)]
      refine ⟨_, _, _, _, apGrow (x := .lsl 1 1 0 3 3) (el := ⟨true, 3, u8V [orB 224 (c8 (shrI r 12)), tailB r 6, orB 128 (andB (c8 r) 63)], [1]⟩) (cs := u8V bs) rfl rfl rfl rfl rfl rfl rfl rfl rfl (by show 3 ≠ 0; decide) rfl (by show bs.length < bs.length + 3; omega) rfl (by rw [u8V_len]; show bs.length * 1 = _; omega) rfl rfl (fits1 hb (by show 3 ≤ 4; decide)) (fun _ _ e => by cases e), ?_⟩
      exact ⟨(fin [orB 224 (c8 (shrI r 12)), tailB r 6, orB 128 (andB (c8 r) 63)]).1.symm ▸ rfl, Nat.le_of_ble_eq_true rfl, .inl (fin [orB 224 (c8 (shrI r 12)), tailB r 6, orB 128 (andB (c8 r) 63)]).2, trivial⟩
    · have h3 : ¬ IntKind.u32.wrap r ≤ 65535 := of_decide_eq_false h3
      rw [if_neg (by omega)]
      refine BCase.yes (decide_eq_true (by omega)) ?_
      repeat (first | refine BCase.yes rfl ?_ | refine BCase.no rfl ?_)
      refine ⟨fun h4 => ?_, fun h4 => ?_⟩
      · have h4 : IntKind.u32.wrap r ≤ 1114111 := of_decide_eq_true h4
        rw [if_pos ⟨by omega, h4⟩]
        refine ⟨_, _, _, _, apGrow (x := .lsl 1 1 0 4 4) (el := ⟨true, 4, u8V [orB 240 (c8 (shrI r 18)), tailB r 12, tailB r 6, orB 128 (andB (c8 r) 63)], [1]⟩) (cs := u8V bs) rfl rfl rfl rfl rfl rfl rfl rfl rfl (by show 4 ≠ 0; decide) rfl (by show bs.length < bs.length + 4; omega) rfl (by rw [u8V_len]; show bs.length * 1 = _; omega) rfl rfl (fits1 hb (by show 4 ≤ 4; decide)) (fun _ _ e => by cases e), ?_⟩
        exact ⟨(fin [orB 240 (c8 (shrI r 18)), tailB r 12, tailB r 6, orB 128 (andB (c8 r) 63)]).1.symm ▸ rfl, Nat.le_of_ble_eq_true rfl, .inl (fin [orB 240 (c8 (shrI r 18)), tailB r 12, tailB r 6, orB 128 (andB (c8 r) 63)]).2, trivial⟩
      · have h4 : ¬ IntKind.u32.wrap r ≤ 1114111 := of_decide_eq_false h4
        rw [if_neg (fun e => h4 e.2)]
        refine ⟨_, _, _, _, apGrow (x := .lsl 1 1 0 3 3) (el := ⟨true, 3, u8V [239, 191, 189], [1]⟩) (cs := u8V bs) rfl rfl rfl rfl rfl rfl rfl rfl rfl (by show 3 ≠ 0; decide) rfl (by show bs.length < bs.length + 3; omega) rfl (by rw [u8V_len]; show bs.length * 1 = _; omega) rfl rfl (fits1 hb (by show 3 ≤ 4; decide)) (fun _ _ e => by cases e), ?_⟩
        exact ⟨(fin [239, 191, 189]).1.symm ▸ rfl, Nat.le_of_ble_eq_true rfl, .inl (fin [239, 191, 189]).2, trivial⟩
  · have h : ¬ 57343 < IntKind.u32.wrap r := of_decide_eq_false h
    repeat (first | refine BCase.yes rfl ?_ | refine BCase.no rfl ?_)
    rw [if_neg (by omega)]
    refine BCase.no (decide_eq_false (by omega)) ?_
    repeat (first | refine BCase.yes rfl ?_ | refine BCase.no rfl ?_)
    rw [if_neg (by omega)]
    refine ⟨_, _, _, _, apGrow (x := .lsl 1 1 0 3 3) (el := ⟨true, 3, u8V [239, 191, 189], [1]⟩) (cs := u8V bs) rfl rfl rfl rfl rfl rfl rfl rfl rfl (by show 3 ≠ 0; decide) rfl (by show bs.length < bs.length + 3; omega) rfl (by rw [u8V_len]; show bs.length * 1 = _; omega) rfl rfl (fits1 hb (by show 3 ≤ 4; decide)) (fun _ _ e => by cases e), ?_⟩
    exact ⟨(fin [239, 191, 189]).1.symm ▸ rfl, Nat.le_of_ble_eq_true rfl, .inl (fin [239, 191, 189]).2, trivial⟩
end Go.Cx
namespace Go.Cx
open Go.Proofs Go.Row
set_option maxRecDepth 100000
set_option maxHeartbeats 16000000
theorem aRune0 (r : Int) : Eff Tryz.prog 123 [.nils, .int .i32 r] [] [bufG 0 (encB r)] (gV 0 (encB r).length 0) := by
  refine Eff.ofP rfl rfl rfl (bufG_ok _ _ _) (Nat.zero_le _) (Sem.of_body tysOk md1 Tryz.func123 rfl rfl ?_)
  refine ⟨fun h => ?_, fun h => ?_⟩
  · have h : IntKind.u32.wrap r ≤ 127 := of_decide_eq_true h
    have e : encB r = [c8 r] := by unfold encB; rw [if_pos h]
    rw [e]
    exact ⟨[1], 2, rfl, by decide, fun i hi => absurd hi (Nat.not_lt_zero _), rfl, rfl⟩
  · have h : ¬ IntKind.u32.wrap r ≤ 127 := of_decide_eq_false h
    refine (aNon0 r h).call [] 0 rfl rfl (by decide) rfl rfl ?_
    exact ⟨[0], 1, rfl, by decide, fun i hi => absurd hi (Nat.not_lt_zero _), rfl, rfl⟩
theorem aRune1 (bs : List Int) (hb : bs.length < 10000000) (ver : Nat) (r : Int) : Eff Tryz.prog 123 [gV 0 bs.length ver, .int .i32 r] [bufG ver bs] [bufG (ver + 1) (bs ++ encB r)] (gV 0 (bs ++ encB r).length (ver + 1)) := by
  refine Eff.of rfl rfl (bufG_ok _ _ _) (bufG_ok _ _ _) (Nat.le_refl _) (Sem.of_body tysOk md1 Tryz.func123 rfl rfl ?_)
  refine ⟨fun h => ?_, fun h => ?_⟩
  · have h : IntKind.u32.wrap r ≤ 127 := of_decide_eq_true h
    have e : encB r = [c8 r] := by unfold encB; rw [if_pos h]
    rw [e]
    refine ⟨_, _, _, _, apGrow (x := .lsl 1 1 0 1 1) (el := ⟨true, 1, u8V [c8 r], [1]⟩) (cs := u8V bs) rfl rfl rfl rfl rfl rfl rfl rfl rfl (by show 1 ≠ 0; decide) rfl (by show bs.length < bs.length + 1; omega) rfl (by rw [u8V_len]; show bs.length * 1 = _; omega) rfl rfl (fits1 hb (by show 1 ≤ 4; decide)) (fun _ _ e => by cases e), ?_⟩
    refine ⟨?_, Nat.le_of_ble_eq_true rfl, .inl ?_, trivial⟩
    · rw [List.length_append]
      try rfl
    · unfold bufG
      rw [u8V_app]
      try rfl
  · have h : ¬ IntKind.u32.wrap r ≤ 127 := of_decide_eq_false h
    refine (aNon1 bs hb ver r h).call [0] 1 rfl rfl (by decide) rfl rfl ?_
    exact ⟨rfl, Nat.le_of_ble_eq_true rfl, .inl rfl, trivial⟩
/-! ### strings.Builder -/
def bldB (bs : List Int) (ver : Nat) : List Blk := match bs with | [] => [.cells 139 [.nilp, .nils]] | _ :: _ => [.cells 139 [.ptr 0 0, gV 1 bs.length ver], bufG ver bs]
theorem copy0 : Eff Tryz.prog 122 [.ptr 0 0] [.cells 139 [.nilp, .nils]] [.cells 139 [.ptr 0 0, .nils]] (.tup []) := by
  refine Eff.of rfl rfl rfl rfl (Nat.le_refl _) (Sem.of_body tysOk md1 Tryz.func122 rfl rfl ?_)
  repeat (first | refine BCase.yes rfl ?_ | refine BCase.no rfl ?_)
  refine Sem.noEscape (fn := Tryz.f149) (by kernel_rfl) (by kernel_rfl) (by kernel_rfl) (by kernel_rfl) (by kernel_rfl) ?_
  exact ⟨rfl, Nat.le_of_ble_eq_true rfl, .inl rfl, trivial⟩
def bl1 (bs : List Int) (ver : Nat) : List Blk := [.cells 139 [.ptr 0 0, gV 1 bs.length ver], bufG ver bs]
theorem bl1_ok (bs : List Int) (ver : Nat) : (bl1 bs ver).all (Blk.okB 2) = true := by
  show (true && ((u8V bs).all V.free1 && true)) = true
  rw [u8V_free]; rfl
theorem copy1 (bs : List Int) (ver : Nat) : Eff Tryz.prog 122 [.ptr 0 0] (bl1 bs ver) (bl1 bs ver) (.tup []) := by
  refine Eff.of rfl rfl (bl1_ok _ _) (bl1_ok _ _) (Nat.le_refl _) (Sem.of_body tysOk md1 Tryz.func122 rfl rfl ?_)
  repeat (first | refine BCase.yes rfl ?_ | refine BCase.no rfl ?_)
  exact ⟨rfl, Nat.le_of_ble_eq_true rfl, .inl rfl, .inl rfl, trivial⟩
theorem wByte0 (b : Int) : Eff Tryz.prog 72 [.ptr 0 0, .int .u8 b] [.cells 139 [.nilp, .nils]] (bl1 [b] 0) .undef := by
  refine Eff.ofP rfl rfl rfl (bl1_ok _ _) (by show 1 ≤ 2; decide) (Sem.of_body tysOk md1 Tryz.func72 rfl rfl ?_)
  refine copy0.here rfl [] rfl ?_
  refine ⟨[0, 2], 3, rfl, by decide, fun i hi => ?_, rfl, rfl⟩
  obtain rfl : i = 0 := by have hi : i < 1 := hi; omega
  rfl
theorem wByte1 (bs : List Int) (hb : bs.length < 10000000) (ver : Nat) (b : Int) : Eff Tryz.prog 72 [.ptr 0 0, .int .u8 b] (bl1 bs ver) (bl1 (bs ++ [b]) (ver + 1)) .undef := by
  refine Eff.of rfl rfl (bl1_ok _ _) (bl1_ok _ _) (Nat.le_refl _) (Sem.of_body tysOk md1 Tryz.func72 rfl rfl ?_)
  refine (copy1 bs ver).here rfl [] rfl ?_
  refine ⟨_, _, _, _, apGrow (x := .lsl 2 1 0 1 1) (el := ⟨true, 1, u8V [b], [2]⟩) (cs := u8V bs) rfl rfl rfl rfl rfl rfl rfl rfl rfl (by show 1 ≠ 0; decide) rfl (by show bs.length < bs.length + 1; omega) rfl (by rw [u8V_len]; show bs.length * 1 = _; omega) rfl rfl (fits1 hb (by show 1 ≤ 4; decide)) (fun _ _ e => by cases e), ?_⟩
  refine ⟨rfl, Nat.le_of_ble_eq_true rfl, .inl ?_, .inl ?_, trivial⟩
  · show some (Blk.cells _ [.ptr 0 0, gV 1 (bs ++ [b]).length (ver + 1)]) = some (Blk.cells _ [.ptr 0 0, gV 1 (bs.length + 1) (ver + 1)])
    rw [List.length_append]
    try rfl
  · unfold bufG
    rw [u8V_app]
    try rfl
theorem wRune0 (r : Int) : ∃ n, Eff Tryz.prog 73 [.ptr 0 0, .int .i32 r] [.cells 139 [.nilp, .nils]] (bl1 (encB r) 0) (.tup [.int .i64 n, .undef]) := by
  refine ⟨IntKind.i64.wrap (((encB r).length : Nat) - 0), Eff.of rfl rfl rfl (bl1_ok _ _) (by show 1 ≤ 2; decide) (Sem.of_body tysOk md1 Tryz.func73 rfl rfl ?_)⟩
  · refine copy0.here rfl [] rfl ?_
    refine (aRune0 r).call [] 1 rfl rfl (by decide) rfl rfl ?_
    exact ⟨rfl, Nat.le_of_ble_eq_true rfl, .inl rfl, .inl rfl, trivial⟩
theorem wRune1 (bs : List Int) (hb : bs.length < 10000000) (ver : Nat) (r : Int) : ∃ n, Eff Tryz.prog 73 [.ptr 0 0, .int .i32 r] (bl1 bs ver) (bl1 (bs ++ encB r) (ver + 1)) (.tup [.int .i64 n, .undef]) := by
  refine ⟨IntKind.i64.wrap (((bs ++ encB r).length : Nat) - (bs.length : Nat)), Eff.of rfl rfl (bl1_ok _ _) (bl1_ok _ _) (Nat.le_refl _) (Sem.of_body tysOk md1 Tryz.func73 rfl rfl ?_)⟩
  · refine (copy1 bs ver).here rfl [] rfl ?_
    refine (aRune1 bs hb ver r).call [1] 2 rfl rfl (by decide) rfl rfl ?_
    exact ⟨rfl, Nat.le_of_ble_eq_true rfl, .inl rfl, .inl rfl, trivial⟩
def byteR (bs : List Int) : Prop := ∀ b ∈ bs, 0 ≤ b ∧ b < 256
def strOf (bs : List Int) : ByteArray := ⟨(bs.map fun n => UInt8.ofNat n.toNat).toArray⟩
theorem u8V_byte {bs : List Int} (h : byteR bs) : (u8V bs).all isByteV = true := by
  rw [List.all_eq_true]
  intro x hx
  obtain ⟨n, hn, rfl⟩ := List.mem_map.1 hx
  have := h n hn
  show (decide (0 ≤ n) && decide (n < 256)) = true
  rw [decide_eq_true this.1, decide_eq_true this.2]; rfl
theorem take_u8 (b : Int) (l : List Int) : (u8V (b :: l)).take (((b :: l).length : Nat) : Int).toNat = u8V (b :: l) := by
  rw [Int.toNat_natCast, List.take_of_length_le (Nat.le_of_eq (u8V_len _))]
theorem bChk (b : Int) (l : List Int) (hb : (b :: l).length < 10000000) (hr : byteR (b :: l)) (ver : Nat) : (Nat.beq ver ver && Nat.beq 5 5 && Nat.beq (Tryz.prog.cellsOf 5) 1 && decide ((0 : Int) ≤ ((b :: l).length : Nat)) && decide ((((b :: l).length : Nat) : Int) ≤ 9223372036854775807) && decide ((((b :: l).length : Nat) : Int) ≤ ((u8V (b :: l)).length : Nat)) && ((u8V (b :: l)).take (((b :: l).length : Nat) : Int).toNat).all isByteV) = true := by
  rw [take_u8, u8V_byte hr]
  simp only [Bool.and_eq_true]
  exact ⟨⟨⟨⟨⟨⟨Nat.beq_refl _, rfl⟩, by kernel_rfl⟩, decide_eq_true (by omega)⟩, decide_eq_true (by omega)⟩, decide_eq_true (by rw [u8V_len]; omega)⟩, trivial⟩
theorem bVal (b : Int) (l : List Int) : V.str ⟨(List.map byteV ((u8V (b :: l)).take (((b :: l).length : Nat) : Int).toNat)).toArray⟩ = .str (strOf (b :: l)) := by
  rw [take_u8]
  unfold strOf u8V
  rw [List.map_map]
  rfl
end Go.Cx
namespace Go.Cx
open Go.Proofs Go.Row
set_option maxRecDepth 100000
set_option maxHeartbeats 16000000
/-! ### The text of a row -/
def cellB (c : Cl) : List Int := if c.kind = 2 then [] else if c.rune = 0 then [32] else (encB c.rune ++ (if c.m0 = 0 then [] else encB c.m0)) ++ (if c.m1 = 0 then [] else encB c.m1)
def textB (r : List Cl) : List Int := (r.map cellB).flatten
def textS (r : List Cl) : ByteArray := strOf (textB r)
theorem textB_snoc {r : List Cl} {i : Nat} {c : Cl} (h : r[i]? = some c) : textB (r.take (i + 1)) = textB (r.take i) ++ cellB c := by
  obtain ⟨h1, h2⟩ := List.getElem?_eq_some_iff.1 h
  unfold textB
  rw [List.take_succ_eq_append_getElem h1, h2]
  simp
theorem cellB_len (c : Cl) : (cellB c).length ≤ 12 := by
  have h1 := (encB_len c.rune).2
  have h2 := (encB_len c.m0).2
  have h3 := (encB_len c.m1).2
  unfold cellB
  split
  · show 0 ≤ 12; omega
  · split
    · show 1 ≤ 12; omega
    · rw [List.length_append, List.length_append]
      have h4 : (if c.m0 = 0 then [] else encB c.m0).length ≤ 4 := by split; exact Nat.zero_le _; exact h2
      have h5 : (if c.m1 = 0 then [] else encB c.m1).length ≤ 4 := by split; exact Nat.zero_le _; exact h3
      omega
theorem textB_len (r : List Cl) : (textB r).length ≤ 12 * r.length := by
  unfold textB
  induction r with
  | nil => exact Nat.le_refl _
  | cons c r ih =>
    have := cellB_len c
    rw [List.map_cons, List.flatten_cons, List.length_append, List.length_cons]; omega
theorem wru8 (n : Int) : 0 ≤ IntKind.u8.wrap n ∧ IntKind.u8.wrap n < 256 := by
  unfold IntKind.wrap
  simp [IntKind.bits, IntKind.signed]
  omega
theorem encB_byte (r : Int) : byteR (encB r) := by
  have a : ∀ x y, 0 ≤ orB x y ∧ orB x y < 256 := fun x y => wru8 _
  unfold encB byteR
  split
  · intro b hb; rw [List.mem_singleton.1 hb]; exact wru8 _
  · split
    · intro b hb; simp only [List.mem_cons, List.not_mem_nil, or_false] at hb; rcases hb with rfl | rfl <;> exact a _ _
    · split
      · intro b hb; simp only [List.mem_cons, List.not_mem_nil, or_false] at hb; rcases hb with rfl | rfl | rfl <;> exact a _ _
      · split
        · intro b hb; simp only [List.mem_cons, List.not_mem_nil, or_false] at hb; rcases hb with rfl | rfl | rfl | rfl <;> exact a _ _
        · intro b hb; simp only [List.mem_cons, List.not_mem_nil, or_false] at hb; rcases hb with rfl | rfl | rfl <;> omega
theorem byteR_app {a b : List Int} (ha : byteR a) (hb : byteR b) : byteR (a ++ b) := fun x hx => (List.mem_append.1 hx).elim (ha x) (hb x)
theorem cellB_byte (c : Cl) : byteR (cellB c) := by
  unfold cellB
  split
  · intro b hb; cases hb
  · split
    · intro b hb; rw [List.mem_singleton.1 hb]; omega
    · refine byteR_app (byteR_app (encB_byte _) ?_) ?_
      · split
        · intro b hb; cases hb
        · exact encB_byte _
      · split
        · intro b hb; cases hb
        · exact encB_byte _
theorem textB_byte (r : List Cl) : byteR (textB r) := by
  unfold textB
  intro b hb
  obtain ⟨l, hl, hbl⟩ := List.mem_flatten.1 hb
  obtain ⟨c, _, rfl⟩ := List.mem_map.1 hl
  exact cellB_byte c b hbl
def envTt (r : List Cl) (i : Nat) : List V := [rowV r, .undef, .str ⟨#[]⟩, .ptr 0 0, .undef, .undef, .undef, .undef, rowV r, .int .i64 r.length, .int .i64 i] ++ List.replicate 27 .undef
def bld0 : Blk := .cells 139 [.nilp, .nils]
def hpT (bs : List Int) (ver : Nat) (c0 : Cl) : Heap := match bs with | [] => [some bld0] | b :: l => [some (.cells 139 [.ptr 0 0, gV 2 (b :: l).length ver]), some (.cells 46 (Cl.cs c0)), some (bufG ver (b :: l))]
theorem under_ok (r : List Cl) (i : Nat) (bs : List Int) (ver : Nat) (c0 : Cl) : ((envTt r i).all (V.under (hpT bs ver c0).length) && (hpT bs ver c0).all (Blk.under (hpT bs ver c0).length)) = true := by
  cases bs with
  | nil => rfl
  | cons b l =>
    have hf : (u8V (b :: l)).all (V.under 3) = true := by
      rw [List.all_eq_true]; intro x hx
      obtain ⟨n, _, rfl⟩ := List.mem_map.1 hx; rfl
    show (_ && (_ && (_ && ((u8V (b :: l)).all (V.under 3) && true)))) = true
    rw [hf]; rfl
theorem hpT_len (bs : List Int) (ver : Nat) (c0 : Cl) : 1 ≤ (hpT bs ver c0).length := by cases bs; exact Nat.le_refl _; exact Nat.succ_le_succ (Nat.zero_le _)
theorem enc_cons (r : Int) : ∃ e es, encB r = e :: es := by
  have := (encB_len r).1
  cases h : encB r with
  | nil => rw [h] at this; simp at this
  | cons e es => exact ⟨e, es, rfl⟩
theorem rText (r : List Cl) (hr : r.length < 100000) : Fn Tryz.prog 33 [rowV r] (.str (textS r)) := by
  have hl := rowC_len r
  have hel : V.int .i64 ((rowC r).length : Nat) = V.int .i64 (r.length : Nat) := by rw [hl]
  refine Fn.of_body tysOk md0 Tryz.func33 rfl rfl rfl rfl ?_
  refine LoopP.inv (md := md0) (fun k env h => ∃ (i ver : Nat) (c0 : Cl), k = r.length - i ∧ i ≤ r.length ∧ env = envTt r i ∧ h = hpT (textB (r.take i)) ver c0) r.length ⟨envTt r 0, _, .same ?_ rfl, 0, 0, zeroC, rfl, Nat.zero_le _, rfl, rfl⟩ ?_
  · repeat (first | exact trivial | refine ⟨.inl rfl, ?_⟩ | refine ⟨.inl hel.symm, ?_⟩ | refine ⟨.inr rfl, ?_⟩)
  rintro k _ _ ⟨i, ver, c0, rfl, hi, rfl, rfl⟩
  have hbl := textB_len (r.take i)
  have hbi : 12 * (r.take i).length ≤ 1200000 := by rw [List.length_take]; omega
  have step : ∀ {c : Cl}, r[i]? = some c → textB (r.take (i + 1)) = textB (r.take i) ++ cellB c := fun h => textB_snoc h
  have hend : i = r.length → textS r = strOf (textB (r.take i)) := fun e => by subst e; rw [List.take_length]; rfl
  have hbyte := textB_byte (r.take i)
  generalize textB (r.take i) = bs at step hbl hend hbyte ⊢
  cases bs with
  | nil =>
    refine ⟨fun hlt => ?_, fun hge => ?_⟩
    · have hlt := of_decide_eq_true hlt
      have hi' : i < r.length := by omega
      obtain ⟨c, hc⟩ : ∃ c, r[i]? = some c := ⟨_, List.getElem?_eq_getElem hi'⟩
      have hst := step hc
      unfold cellB at hst
      refine ⟨Cl.cs c, ⟨by omega, by rw [Int.toNat_natCast]; exact rowC_get hc⟩, gdP rfl ?_⟩
      by_cases hk : c.kind = 2
      · rw [if_pos hk] at hst
        refine BCase.yes (beqT hk) ?_
        refine ⟨r.length - (i + 1), envTt r (i + 1), _, by omega, .cut ?_ (hpT_len _ _ _) rfl (under_ok r (i + 1) _ _ _), i + 1, 0, zeroC, rfl, hi', rfl, by rw [hst] <;> rfl⟩
        repeat (first | exact trivial | refine ⟨.inl rfl, ?_⟩ | refine ⟨.inl (congrArg (V.int .i64) (wrs i 1 (by omega)).symm), ?_⟩ | refine ⟨.inr rfl, ?_⟩)
      rw [if_neg hk] at hst
      refine BCase.no (beqF hk) ?_
      by_cases h0 : c.rune = 0
      · rw [if_pos h0] at hst
        refine BCase.yes (beqT h0) ?_
        refine (wByte0 32).call [0] 2 rfl rfl (by decide) rfl rfl ?_
        refine ⟨r.length - (i + 1), envTt r (i + 1), _, by omega, .same ?_ rfl, i + 1, 0, c, rfl, hi', rfl, by rw [hst] <;> rfl⟩
        repeat (first | exact trivial | refine ⟨.inl rfl, ?_⟩ | refine ⟨.inl (congrArg (V.int .i64) (wrs i 1 (by omega)).symm), ?_⟩ | refine ⟨.inr rfl, ?_⟩)
      rw [if_neg h0] at hst
      refine BCase.no (beqF h0) ?_
      have hn0 := (encB_len c.rune).2
      have hn1 := (encB_len c.m0).2
      obtain ⟨n1, hw⟩ := wRune0 c.rune
      obtain ⟨e, es, he⟩ := enc_cons c.rune
      rw [he] at hw hst hn0
      refine hw.call [0] 2 rfl rfl (by decide) rfl rfl ?_
      have hcl : (e :: es).length < 1300000 := by
        try rw [List.length_append]
        omega
      refine LoopP.unroll (md := md0) ?_
      refine BCase.yes rfl ?_
      refine gdP rfl ?_
      by_cases hm0 : c.m0 = 0
      · rw [if_pos hm0] at hst
        refine BCase.no (show (c.m0 != 0) = false by rw [hm0]; rfl) ?_
        refine LoopP.unroll (md := md0) ?_
        refine BCase.yes rfl ?_
        refine gdP rfl ?_
        by_cases hm1 : c.m1 = 0
        · rw [if_pos hm1] at hst
          refine BCase.no (show (c.m1 != 0) = false by rw [hm1]; rfl) ?_
          refine LoopP.unroll (md := md0) ?_
          refine BCase.no rfl ?_
          have hx : textB (r.take (i + 1)) = (e :: es) := by rw [hst]; simp
          refine ⟨r.length - (i + 1), envTt r (i + 1), _, by omega, .same ?_ rfl, i + 1, 0, c, rfl, hi', rfl, by rw [hx] <;> rfl⟩
          repeat (first | exact trivial | refine ⟨.inl rfl, ?_⟩ | refine ⟨.inl (congrArg (V.int .i64) (wrs i 1 (by omega)).symm), ?_⟩ | refine ⟨.inr rfl, ?_⟩)
        · rw [if_neg hm1] at hst
          refine BCase.yes (show (c.m1 != 0) = true from bne_iff_ne.2 hm1) ?_
          obtain ⟨n3, hw3⟩ := wRune1 (e :: es) (by omega) 0 c.m1
          refine hw3.call [0, 2] 3 rfl rfl (by decide) rfl rfl ?_
          refine LoopP.unroll (md := md0) ?_
          refine BCase.no rfl ?_
          have hx : textB (r.take (i + 1)) = ((e :: es) ++ encB c.m1) := by rw [hst]; simp
          refine ⟨r.length - (i + 1), envTt r (i + 1), _, by omega, .same ?_ rfl, i + 1, (0 + 1), c, rfl, hi', rfl, by rw [hx] <;> rfl⟩
          repeat (first | exact trivial | refine ⟨.inl rfl, ?_⟩ | refine ⟨.inl (congrArg (V.int .i64) (wrs i 1 (by omega)).symm), ?_⟩ | refine ⟨.inr rfl, ?_⟩)
      · rw [if_neg hm0] at hst
        refine BCase.yes (show (c.m0 != 0) = true from bne_iff_ne.2 hm0) ?_
        obtain ⟨n2, hw2⟩ := wRune1 (e :: es) (by omega) 0 c.m0
        refine hw2.call [0, 2] 3 rfl rfl (by decide) rfl rfl ?_
        have hcl2 : ((e :: es) ++ encB c.m0).length < 1300010 := by rw [List.length_append]; omega
        refine LoopP.unroll (md := md0) ?_
        refine BCase.yes rfl ?_
        refine gdP rfl ?_
        by_cases hm1 : c.m1 = 0
        · rw [if_pos hm1] at hst
          refine BCase.no (show (c.m1 != 0) = false by rw [hm1]; rfl) ?_
          refine LoopP.unroll (md := md0) ?_
          refine BCase.no rfl ?_
          have hx : textB (r.take (i + 1)) = ((e :: es) ++ encB c.m0) := by rw [hst]; simp
          refine ⟨r.length - (i + 1), envTt r (i + 1), _, by omega, .same ?_ rfl, i + 1, (0 + 1), c, rfl, hi', rfl, by rw [hx] <;> rfl⟩
          repeat (first | exact trivial | refine ⟨.inl rfl, ?_⟩ | refine ⟨.inl (congrArg (V.int .i64) (wrs i 1 (by omega)).symm), ?_⟩ | refine ⟨.inr rfl, ?_⟩)
        · rw [if_neg hm1] at hst
          refine BCase.yes (show (c.m1 != 0) = true from bne_iff_ne.2 hm1) ?_
          obtain ⟨n3, hw3⟩ := wRune1 ((e :: es) ++ encB c.m0) (by omega) (0 + 1) c.m1
          refine hw3.call [0, 2] 3 rfl rfl (by decide) rfl rfl ?_
          refine LoopP.unroll (md := md0) ?_
          refine BCase.no rfl ?_
          have hx : textB (r.take (i + 1)) = (((e :: es) ++ encB c.m0) ++ encB c.m1) := by rw [hst]; simp
          refine ⟨r.length - (i + 1), envTt r (i + 1), _, by omega, .same ?_ rfl, i + 1, ((0 + 1) + 1), c, rfl, hi', rfl, by rw [hx] <;> rfl⟩
          repeat (first | exact trivial | refine ⟨.inl rfl, ?_⟩ | refine ⟨.inl (congrArg (V.int .i64) (wrs i 1 (by omega)).symm), ?_⟩ | refine ⟨.inr rfl, ?_⟩)
    · have hge := of_decide_eq_false hge
      have hi' : i = r.length := by omega
      rw [hend hi']
      refine Sem.of_body tysOk md1 Tryz.func74 rfl rfl ?_
      refine DrawP.intro tysOk mixed false ?_
      refine ⟨by kernel_rfl, ?_⟩
      rfl
  | cons b l =>
    refine ⟨fun hlt => ?_, fun hge => ?_⟩
    · have hlt := of_decide_eq_true hlt
      have hi' : i < r.length := by omega
      obtain ⟨c, hc⟩ : ∃ c, r[i]? = some c := ⟨_, List.getElem?_eq_getElem hi'⟩
      have hst := step hc
      unfold cellB at hst
      refine ⟨Cl.cs c, ⟨by omega, by rw [Int.toNat_natCast]; exact rowC_get hc⟩, gdP rfl ?_⟩
      by_cases hk : c.kind = 2
      · rw [if_pos hk] at hst
        refine BCase.yes (beqT hk) ?_
        rw [List.append_nil] at hst
        refine ⟨r.length - (i + 1), envTt r (i + 1), _, by omega, .cut ?_ (hpT_len _ _ _) rfl (under_ok r (i + 1) _ _ _), i + 1, ver, c0, rfl, hi', rfl, by rw [hst] <;> rfl⟩
        repeat (first | exact trivial | refine ⟨.inl rfl, ?_⟩ | refine ⟨.inl (congrArg (V.int .i64) (wrs i 1 (by omega)).symm), ?_⟩ | refine ⟨.inr rfl, ?_⟩)
      rw [if_neg hk] at hst
      refine BCase.no (beqF hk) ?_
      by_cases h0 : c.rune = 0
      · rw [if_pos h0] at hst
        refine BCase.yes (beqT h0) ?_
        refine (wByte1 (b :: l) (by omega) ver 32).call [0, 2] 4 rfl rfl (by decide) rfl rfl ?_
        refine ⟨r.length - (i + 1), envTt r (i + 1), _, by omega, .cut ?_ (hpT_len _ _ _) rfl (under_ok r (i + 1) _ _ _), i + 1, (ver + 1), c0, rfl, hi', rfl, by rw [hst] <;> rfl⟩
        repeat (first | exact trivial | refine ⟨.inl rfl, ?_⟩ | refine ⟨.inl (congrArg (V.int .i64) (wrs i 1 (by omega)).symm), ?_⟩ | refine ⟨.inr rfl, ?_⟩)
      rw [if_neg h0] at hst
      refine BCase.no (beqF h0) ?_
      have hn0 := (encB_len c.rune).2
      have hn1 := (encB_len c.m0).2
      obtain ⟨n1, hw⟩ := wRune1 (b :: l) (by omega) ver c.rune
      refine hw.call [0, 2] 4 rfl rfl (by decide) rfl rfl ?_
      have hcl : ((b :: l) ++ encB c.rune).length < 1300000 := by
        try rw [List.length_append]
        omega
      refine LoopP.unroll (md := md0) ?_
      refine BCase.yes rfl ?_
      refine gdP rfl ?_
      by_cases hm0 : c.m0 = 0
      · rw [if_pos hm0] at hst
        refine BCase.no (show (c.m0 != 0) = false by rw [hm0]; rfl) ?_
        refine LoopP.unroll (md := md0) ?_
        refine BCase.yes rfl ?_
        refine gdP rfl ?_
        by_cases hm1 : c.m1 = 0
        · rw [if_pos hm1] at hst
          refine BCase.no (show (c.m1 != 0) = false by rw [hm1]; rfl) ?_
          refine LoopP.unroll (md := md0) ?_
          refine BCase.no rfl ?_
          have hx : textB (r.take (i + 1)) = ((b :: l) ++ encB c.rune) := by rw [hst]; simp
          refine ⟨r.length - (i + 1), envTt r (i + 1), _, by omega, .cut ?_ (hpT_len _ _ _) rfl (under_ok r (i + 1) _ _ _), i + 1, (ver + 1), c0, rfl, hi', rfl, by rw [hx] <;> rfl⟩
          repeat (first | exact trivial | refine ⟨.inl rfl, ?_⟩ | refine ⟨.inl (congrArg (V.int .i64) (wrs i 1 (by omega)).symm), ?_⟩ | refine ⟨.inr rfl, ?_⟩)
        · rw [if_neg hm1] at hst
          refine BCase.yes (show (c.m1 != 0) = true from bne_iff_ne.2 hm1) ?_
          obtain ⟨n3, hw3⟩ := wRune1 ((b :: l) ++ encB c.rune) (by omega) (ver + 1) c.m1
          refine hw3.call [0, 2] 4 rfl rfl (by decide) rfl rfl ?_
          refine LoopP.unroll (md := md0) ?_
          refine BCase.no rfl ?_
          have hx : textB (r.take (i + 1)) = (((b :: l) ++ encB c.rune) ++ encB c.m1) := by rw [hst]; simp
          refine ⟨r.length - (i + 1), envTt r (i + 1), _, by omega, .cut ?_ (hpT_len _ _ _) rfl (under_ok r (i + 1) _ _ _), i + 1, ((ver + 1) + 1), c0, rfl, hi', rfl, by rw [hx] <;> rfl⟩
          repeat (first | exact trivial | refine ⟨.inl rfl, ?_⟩ | refine ⟨.inl (congrArg (V.int .i64) (wrs i 1 (by omega)).symm), ?_⟩ | refine ⟨.inr rfl, ?_⟩)
      · rw [if_neg hm0] at hst
        refine BCase.yes (show (c.m0 != 0) = true from bne_iff_ne.2 hm0) ?_
        obtain ⟨n2, hw2⟩ := wRune1 ((b :: l) ++ encB c.rune) (by omega) (ver + 1) c.m0
        refine hw2.call [0, 2] 4 rfl rfl (by decide) rfl rfl ?_
        have hcl2 : (((b :: l) ++ encB c.rune) ++ encB c.m0).length < 1300010 := by rw [List.length_append]; omega
        refine LoopP.unroll (md := md0) ?_
        refine BCase.yes rfl ?_
        refine gdP rfl ?_
        by_cases hm1 : c.m1 = 0
        · rw [if_pos hm1] at hst
          refine BCase.no (show (c.m1 != 0) = false by rw [hm1]; rfl) ?_
          refine LoopP.unroll (md := md0) ?_
          refine BCase.no rfl ?_
          have hx : textB (r.take (i + 1)) = (((b :: l) ++ encB c.rune) ++ encB c.m0) := by rw [hst]; simp
          refine ⟨r.length - (i + 1), envTt r (i + 1), _, by omega, .cut ?_ (hpT_len _ _ _) rfl (under_ok r (i + 1) _ _ _), i + 1, ((ver + 1) + 1), c0, rfl, hi', rfl, by rw [hx] <;> rfl⟩
          repeat (first | exact trivial | refine ⟨.inl rfl, ?_⟩ | refine ⟨.inl (congrArg (V.int .i64) (wrs i 1 (by omega)).symm), ?_⟩ | refine ⟨.inr rfl, ?_⟩)
        · rw [if_neg hm1] at hst
          refine BCase.yes (show (c.m1 != 0) = true from bne_iff_ne.2 hm1) ?_
          obtain ⟨n3, hw3⟩ := wRune1 (((b :: l) ++ encB c.rune) ++ encB c.m0) (by omega) ((ver + 1) + 1) c.m1
          refine hw3.call [0, 2] 4 rfl rfl (by decide) rfl rfl ?_
          refine LoopP.unroll (md := md0) ?_
          refine BCase.no rfl ?_
          have hx : textB (r.take (i + 1)) = ((((b :: l) ++ encB c.rune) ++ encB c.m0) ++ encB c.m1) := by rw [hst]; simp
          refine ⟨r.length - (i + 1), envTt r (i + 1), _, by omega, .cut ?_ (hpT_len _ _ _) rfl (under_ok r (i + 1) _ _ _), i + 1, (((ver + 1) + 1) + 1), c0, rfl, hi', rfl, by rw [hx] <;> rfl⟩
          repeat (first | exact trivial | refine ⟨.inl rfl, ?_⟩ | refine ⟨.inl (congrArg (V.int .i64) (wrs i 1 (by omega)).symm), ?_⟩ | refine ⟨.inr rfl, ?_⟩)
    · have hge := of_decide_eq_false hge
      have hi' : i = r.length := by omega
      rw [hend hi']
      refine Sem.of_body tysOk md1 Tryz.func74 rfl rfl ?_
      refine DrawP.intro tysOk mixed false ?_
      refine gdP (bChk b l (by omega) hbyte ver) ?_
      refine ⟨by kernel_rfl, ?_⟩
      exact bVal b l
end Go.Cx
namespace Go.Cx
open Go.Proofs Go.Row
set_option maxRecDepth 100000
set_option maxHeartbeats 16000000
/-! ### The examples -/
def prS (s : ByteArray) : Pg := runesS (newP 1 4 0 3) 0 (decodeS [s])
theorem new24_good : (newP 1 4 0 3).good := (newP_pw 1 4 rfl (Int.le_refl _) (by decide) 3 (by decide)).i.good
theorem prS_good (s : ByteArray) : (prS s).good := runesS_good new24_good 0 _
theorem ls_cases (r : Rg) : True := trivial
theorem pgB_mvG (p : Pg) (f : Nat → Nat) (b : Nat) (h1 : f 1 = b + 1) (h3 : f 3 = b + 3) (h5 : f 5 = b + 5) (h6 : f 6 = b + 6) (h2 : f 2 = b + 2) (h4 : f 4 = b + 4) : (hpOf (pgB p)).map (Blk.mv f) = pgAt b p := by
  have := rgC_mv p.r f b h6
  show [some (Blk.cells 93 ((pgC p).map (V.mv f))), some (Blk.cells 148 ((grC 1 p.g0).map (V.mv f))), _, some (Blk.cells 148 ((grC 3 p.g1).map (V.mv f))), _, some (Blk.cells 110 ((rgC 5 p.r).map (V.mv f))), _] = _
  rw [this]
  have e1 : (grC 1 p.g0).map (V.mv f) = grC (b + 1) p.g0 := by
    show [V.gsl (f 2) 1 0 p.g0.rows.length p.g0.rows.length p.g0.ex p.g0.ver, _] = [V.gsl (b + 1 + 1) 1 0 p.g0.rows.length p.g0.rows.length p.g0.ex p.g0.ver, _]
    rw [h2]; rfl
  have e3 : (grC 3 p.g1).map (V.mv f) = grC (b + 3) p.g1 := by
    show [V.gsl (f 4) 1 0 p.g1.rows.length p.g1.rows.length p.g1.ex p.g1.ver, _] = [V.gsl (b + 3 + 1) 1 0 p.g1.rows.length p.g1.rows.length p.g1.ex p.g1.ver, _]
    rw [h4]; rfl
  have e0 : (pgC p).map (V.mv f) = pgC1 b p := by
    show [V.int .i64 p.a.rows, .int .i64 p.a.cols, .int .i64 p.a.top, .int .i64 p.a.bottom, .bool p.a.org, .int .u8 p.a.base, .int .i64 p.c.row, .int .i64 p.c.col, .bool p.c.wrap, .int .u8 p.c.lab, .ptr (f 1) 0, .ptr (f 3) 0, .ptr (f 5) 0, .int .i64 p.room,
      .int .u64 (p.t.w 0 : Nat), .int .u64 (p.t.w 1 : Nat), .int .u64 (p.t.w 2 : Nat), .int .u64 (p.t.w 3 : Nat), .int .u64 (p.t.w 4 : Nat), .int .u64 (p.t.w 5 : Nat), .int .u64 (p.t.w 6 : Nat), .int .u64 (p.t.w 7 : Nat), .int .i64 p.t.cols, .int .u8 p.t.lab, .int .u8 p.t.base, .int .u16 (p.m.toNat : Int),
      .int .u8 p.at_.fk, .int .u8 p.at_.fr, .int .u8 p.at_.fg, .int .u8 p.at_.fb, .int .u8 p.at_.bk, .int .u8 p.at_.br, .int .u8 p.at_.bg, .int .u8 p.at_.bb, .int .u16 p.at_.fl, .int .i32 p.last, .int .u8 p.known] = _
    rw [h1, h3, h5]; rfl
  rw [e0, e1, e3]
  rfl
theorem pgB_new (p : Pg) (n : Nat) : (hpOf (pgB p)).map (Blk.mv (iot [] n)) = pgAt n p := pgB_mvG p _ n rfl rfl rfl rfl rfl rfl
theorem pgAt0 (p : Pg) : pgAt 0 p = hpOf (pgB p) := rfl
theorem printedF (s : ByteArray) (hs : s.size < 100000) : Eff Tryz.prog 22 [.str s] [] (pgB (prS s)) (.ptr 0 0) := by
  have hnew := pNew 1 4 rfl 0 (Int.le_refl _) (by decide) 3 (by decide)
  have htx := pText (newP 1 4 0 3) new24_good 0 [s] (by show 1 < 100000; decide) (by
    show ((s.data.toList ++ []).length) < 1000000
    rw [List.append_nil, show s.data.toList.length = s.size from Array.length_toList]; omega)
  have hg := prS_good s
  change Eff _ _ _ _ (pgB (prS s)) _ at htx
  have hg0 := new24_good
  generalize prS s = p at htx hg ⊢
  generalize newP 1 4 0 3 = p0 at hnew htx hg0
  refine Eff.of rfl rfl rfl (pgB_ok p hg.ok) (Nat.zero_le _) (Sem.of_body tysOk md0 Tryz.func22 rfl rfl ?_)
  refine hnew.call [] 0 rfl rfl (by decide) rfl rfl ?_
  rw [pgB_new]
  refine htx.here rfl [] rfl ?_
  exact ⟨rfl, Nat.le_of_ble_eq_true rfl, .inl rfl, .inl rfl, .inl rfl, .inl rfl, .inl rfl, .inl rfl, .inl rfl, trivial⟩
theorem sEq_self (a : ByteArray) : sEq a a = true := by
  unfold sEq; exact beq_self_eq_true _
structure Shown (p : Pg) (a b : ByteArray) (c : Cu) : Prop where
  good : p.good
  rows : (shG p).rows.map textS = [a, b]
  cur : p.c = c
theorem showsF {p : Pg} {a b : ByteArray} {c : Cu} (h : Shown p a b c) : Eff Tryz.prog 27 [.ptr 0 0, .str a, .str b, c.v] (pgB p) (pgB p) (.bool true) := by
  obtain ⟨hg, hr, rfl⟩ := h
  have ok := hg.ok
  have hok := pgB_ok p ok
  have hsh := pShownL p ok hg.g
  have hlen := hg.sh.len
  have hc2 := hg.sh.c2
  obtain ⟨r0, r1, hrr⟩ : ∃ r0 r1, (shG p).rows = [r0, r1] := by
    match h : (shG p).rows with
    | [r0, r1] => exact ⟨r0, r1, rfl⟩
    | [] => rw [h] at hr; cases hr
    | [_] => rw [h] at hr; cases hr
    | _ :: _ :: _ :: _ => rw [h] at hr; cases hr
  rw [hrr] at hr hsh hlen
  simp only [List.map_cons, List.map_nil, List.cons.injEq, and_true] at hr
  obtain ⟨rfl, rfl⟩ := hr
  have l0 := hlen r0 (by simp)
  have l1 := hlen r1 (by simp)
  refine Eff.of rfl rfl hok hok (Nat.le_refl _) (Sem.of_body tysOk md0 Tryz.func27 rfl rfl ?_)
  refine hsh.here rfl [_] rfl ?_
  refine DrawP.intro tysOk mixed false ?_
  repeat (first | refine BCase.yes rfl ?_ | refine BCase.no rfl ?_)
  refine ⟨_, ⟨by decide, rfl⟩, gdP rfl ?_⟩
  repeat (first | refine BCase.yes rfl ?_ | refine BCase.no rfl ?_)
  refine ⟨_, (rText r0 (by omega)).callT _ _, ?_⟩
  repeat (first | refine BCase.yes rfl ?_ | refine BCase.no rfl ?_)
  refine BCase.yes (sEq_self _) ?_
  repeat (first | refine BCase.yes rfl ?_ | refine BCase.no rfl ?_)
  refine ⟨_, ⟨by decide, rfl⟩, gdP rfl ?_⟩
  repeat (first | refine BCase.yes rfl ?_ | refine BCase.no rfl ?_)
  refine ⟨_, (rText r1 (by omega)).callT _ _, ?_⟩
  repeat (first | refine BCase.yes rfl ?_ | refine BCase.no rfl ?_)
  refine BCase.yes (sEq_self _) ?_
  repeat (first | refine BCase.yes rfl ?_ | refine BCase.no rfl ?_)
  refine ⟨_, (pCursor p ok).hereR [0, 1, 2, 3, 4, 5, 6] [_] 8 rfl rfl rfl, ?_⟩
  repeat (first | refine BCase.yes rfl ?_ | refine BCase.no rfl ?_)
  refine ⟨by kernel_rfl, ?_⟩
  have e : (p.c.row == p.c.row && (p.c.col == p.c.col && (p.c.wrap == p.c.wrap && (p.c.lab == p.c.lab && true)))) = true := by simp
  exact ⟨congrArg V.bool e, Nat.le_of_ble_eq_true rfl, .inl rfl, .inl rfl, .inl rfl, .inl rfl, .inl rfl, .inl rfl, .inl rfl, trivial⟩
end Go.Cx
namespace Go.Cx
open Go.Proofs Go.Row
set_option maxRecDepth 100000
set_option maxHeartbeats 16000000
theorem sh1 : Shown (prS ⟨#[97, 98, 99, 100, 101]⟩) ⟨#[97, 98, 99, 100]⟩ ⟨#[101, 32, 32, 32]⟩ ⟨1, 1, false, 0⟩ := ⟨prS_good _, by kernel_rfl, by kernel_rfl⟩
theorem sh2 : Shown (prS ⟨#[97, 98, 99, 100]⟩) ⟨#[97, 98, 99, 100]⟩ ⟨#[32, 32, 32, 32]⟩ ⟨0, 3, true, 0⟩ := ⟨prS_good _, by kernel_rfl, by kernel_rfl⟩
theorem sh3 : Shown (prS ⟨#[97, 98, 99, 228, 184, 173]⟩) ⟨#[97, 98, 99, 32]⟩ ⟨#[228, 184, 173, 32, 32]⟩ ⟨1, 2, false, 0⟩ := ⟨prS_good _, by kernel_rfl, by kernel_rfl⟩
theorem sh4 : Shown (prS ⟨#[97, 98, 99, 100, 101, 102, 103, 104, 105]⟩) ⟨#[101, 102, 103, 104]⟩ ⟨#[105, 32, 32, 32]⟩ ⟨1, 1, false, 0⟩ := ⟨prS_good _, by kernel_rfl, by kernel_rfl⟩
theorem sh5 : Shown (repeatS (prS ⟨#[120]⟩) 3 0) ⟨#[120, 120, 120, 120]⟩ ⟨#[32, 32, 32, 32]⟩ ⟨0, 3, true, 0⟩ := ⟨repeatS_good (prS_good _) 3 0, by kernel_rfl, by kernel_rfl⟩
theorem mk6 : (cellAt (shG (prS ⟨#[101, 204, 129]⟩)) 0 0).m0 = 769 ∧ (prS ⟨#[101, 204, 129]⟩).c = ⟨0, 1, false, 0⟩ := ⟨by kernel_rfl, by kernel_rfl⟩
end Go.Cx
namespace Go.Cx
open Go.Proofs Go.Row
set_option maxRecDepth 100000
set_option maxHeartbeats 16000000
def strip1 : V → V
  | .psl sz xs _ => .psl sz xs .any
  | v => v
theorem strip1_forg (v : V) : forgT1 v (strip1 v) := by
  cases v with
  | psl sz xs t => exact forgT_psl
  | _ => exact .inl rfl
def stripT : V → V
  | .tup vs => .tup (vs.map strip1)
  | v => v
theorem strip_forg : ∀ vs : List V, forgT vs (vs.map strip1)
  | [] => trivial
  | v :: vs => ⟨strip1_forg v, strip_forg vs⟩
theorem Fn.of_valT {F : Nat → Option Func} {NE : Nat → Bool} {P : Program} {T : Nat → Option TI} (hF : FOk P F) (hNE : NEOk P NE) (hT : TOk P T) (hm : P.follows .mixedOrders = true) (md : Nat → Nat → Bool) (fuel n : Nat) {g : FuncId} {args ws : List V} (ha : allFree args = true) (hv : (V.tup ws).free = true) (hk : (valF F NE P T md fuel n g args).map stripT = some (.tup ws)) : Fn P g args (.tup ws) := by
  cases h : valF F NE P T md fuel n g args with
  | none => rw [h] at hk; cases hk
  | some v =>
    rw [h] at hk
    simp only [Option.map_some, Option.some.injEq] at hk
    cases v with
    | tup vs =>
      simp only [stripT, V.tup.injEq] at hk
      subst hk
      exact Fn.tupT ha hv (strip_forg vs) (Sem.of_val hF hNE hT hm md fuel n h)
    | _ => cases hk
def clA (r : Int) : Cl := ⟨r, 0, 0, 0, at0, 0⟩
theorem ri_long : rgI (prS ⟨#[97, 98, 99, 100, 101, 102, 103, 104, 105]⟩).r = .iptr [gridsV [[clA 97, clA 98, clA 99, clA 100]], .int .i64 0, .int .i64 3, .int .u8 0] := by kernel_rfl
theorem line0 : Fn Tryz.prog 32 [.iptr [gridsV [[clA 97, clA 98, clA 99, clA 100]], .int .i64 0, .int .i64 3, .int .u8 0], .int .i64 0] (.tup [rowV [clA 97, clA 98, clA 99, clA 100], .bool true]) := Fn.of_valT fOk (noNE_ok _) tysOk mixed (fun _ _ => false) 1000 14 rfl rfl (by kernel_rfl)
end Go.Cx
namespace Go.Cx
open Go.Proofs Go.Row
set_option maxRecDepth 100000
set_option maxHeartbeats 32000000
theorem pgB_mv0 (p : Pg) (n : Nat) : (hpOf (pgB p)).map (Blk.mv (iot [0, 1, 2, 3, 4, 5, 6] n)) = pgAt 0 p := pgB_mvG p _ 0 rfl rfl rfl rfl rfl rfl
theorem pgB_mv7 (p : Pg) (n : Nat) : (hpOf (pgB p)).map (Blk.mv (iot [7, 8, 9, 10, 11, 12, 13] n)) = pgAt 7 p := pgB_mvG p _ 7 rfl rfl rfl rfl rfl rfl
theorem pgB_mv15 (p : Pg) (n : Nat) : (hpOf (pgB p)).map (Blk.mv (iot [15, 16, 17, 18, 19, 20, 21] n)) = pgAt 15 p := pgB_mvG p _ 15 rfl rfl rfl rfl rfl rfl
theorem pgB_mv22 (p : Pg) (n : Nat) : (hpOf (pgB p)).map (Blk.mv (iot [22, 23, 24, 25, 26, 27, 28] n)) = pgAt 22 p := pgB_mvG p _ 22 rfl rfl rfl rfl rfl rfl
theorem pgB_mv29 (p : Pg) (n : Nat) : (hpOf (pgB p)).map (Blk.mv (iot [29, 30, 31, 32, 33, 34, 35] n)) = pgAt 29 p := pgB_mvG p _ 29 rfl rfl rfl rfl rfl rfl
theorem pgB_mv36 (p : Pg) (n : Nat) : (hpOf (pgB p)).map (Blk.mv (iot [36, 37, 38, 39, 40, 41, 42] n)) = pgAt 36 p := pgB_mvG p _ 36 rfl rfl rfl rfl rfl rfl
theorem works19 : Fn Tryz.prog 6 [] (.bool true) := by
  have f1 := printedF ⟨#[120]⟩ (by decide)
  have g1 := prS_good ⟨#[120]⟩
  have s1 := sh5
  generalize prS ⟨#[120]⟩ = p1 at f1 g1 s1
  have r1 := pRepeat p1 g1 3 0
  have q1 := s1.good
  generalize repeatS p1 3 0 = x1 at r1 s1 q1
  have f2 := printedF ⟨#[101, 204, 129]⟩ (by decide)
  have g2 := prS_good ⟨#[101, 204, 129]⟩
  have m2 := mk6
  have z2 : (shG (prS ⟨#[101, 204, 129]⟩)).rows.length = 2 ∧ (shG (prS ⟨#[101, 204, 129]⟩)).cols = 4 := ⟨by kernel_rfl, by kernel_rfl⟩
  generalize prS ⟨#[101, 204, 129]⟩ = p2 at f2 g2 m2 z2
  have a2 := pAt p2 g2.ok g2.sh 0 0 (by omega) (by omega)
  generalize cellAt (shG p2) 0 0 = c2 at a2 m2
  obtain ⟨m2, cu2⟩ := m2
  have f3 := printedF ⟨#[97, 98, 99, 100, 101, 102, 103, 104, 105]⟩ (by decide)
  have g3 := prS_good ⟨#[97, 98, 99, 100, 101, 102, 103, 104, 105]⟩
  have s3 := sh4
  have i3 := ri_long
  generalize prS ⟨#[97, 98, 99, 100, 101, 102, 103, 104, 105]⟩ = p3 at f3 g3 s3 i3
  have l3 := pLines p3 g3.ok
  rw [i3] at l3
  have f4 := printedF ⟨#[97, 98, 99, 100, 101]⟩ (by decide)
  have s4 := sh1
  generalize prS ⟨#[97, 98, 99, 100, 101]⟩ = p4 at f4 s4
  have f5 := printedF ⟨#[97, 98, 99, 100]⟩ (by decide)
  have s5 := sh2
  generalize prS ⟨#[97, 98, 99, 100]⟩ = p5 at f5 s5
  have f6 := printedF ⟨#[97, 98, 99, 228, 184, 173]⟩ (by decide)
  have s6 := sh3
  generalize prS ⟨#[97, 98, 99, 228, 184, 173]⟩ = p6 at f6 s6
  have k2 := pCursor p2 g2.ok
  rw [cu2] at k2
  refine Fn.of_body tysOk md0 Tryz.func6 rfl rfl rfl rfl ?_
  refine f1.call [] 0 rfl rfl (by decide) rfl rfl ?_
  rw [pgB_new]
  refine r1.call [0, 1, 2, 3, 4, 5, 6] 7 rfl rfl (by decide) rfl (pgB_mv0 _ 7).symm ?_
  rw [pgB_mv0]
  refine f2.call [] 7 rfl rfl (by decide) rfl rfl ?_
  rw [pgB_new]
  refine a2.call [7, 8, 9, 10, 11, 12, 13] 14 rfl rfl (by decide) rfl (pgB_mv7 _ 14).symm ?_
  rw [pgB_mv7]
  refine f3.call [] 15 rfl rfl (by decide) rfl rfl ?_
  rw [pgB_new]
  refine l3.call [15, 16, 17, 18, 19, 20, 21] 22 rfl rfl (by decide) rfl (pgB_mv15 _ 22).symm ?_
  rw [pgB_mv15]
  refine line0.sem _ ?_
  refine f4.call [] 22 rfl rfl (by decide) rfl rfl ?_
  rw [pgB_new]
  refine (showsF s4).call [22, 23, 24, 25, 26, 27, 28] 29 rfl rfl (by decide) rfl (pgB_mv22 _ 29).symm ?_
  rw [pgB_mv22]
  repeat (first | refine BCase.yes rfl ?_ | refine BCase.no rfl ?_)
  refine f5.call [] 29 rfl rfl (by decide) rfl rfl ?_
  rw [pgB_new]
  repeat (first | refine BCase.yes rfl ?_ | refine BCase.no rfl ?_)
  refine (showsF s5).call [29, 30, 31, 32, 33, 34, 35] 36 rfl rfl (by decide) rfl (pgB_mv29 _ 36).symm ?_
  rw [pgB_mv29]
  repeat (first | refine BCase.yes rfl ?_ | refine BCase.no rfl ?_)
  refine f6.call [] 36 rfl rfl (by decide) rfl rfl ?_
  rw [pgB_new]
  repeat (first | refine BCase.yes rfl ?_ | refine BCase.no rfl ?_)
  refine (showsF s6).call [36, 37, 38, 39, 40, 41, 42] 43 rfl rfl (by decide) rfl (pgB_mv36 _ 43).symm ?_
  rw [pgB_mv36]
  repeat (first | refine BCase.yes rfl ?_ | refine BCase.no rfl ?_)
  refine BCase.yes (beqT m2) ?_
  repeat (first | refine BCase.yes rfl ?_ | refine BCase.no rfl ?_)
  refine k2.call [7, 8, 9, 10, 11, 12, 13] 43 rfl rfl (by decide) rfl (pgB_mv7 _ 43).symm ?_
  rw [pgB_mv7]
  repeat (first | refine BCase.yes rfl ?_ | refine BCase.no rfl ?_)
  refine (showsF s3).call [15, 16, 17, 18, 19, 20, 21] 43 rfl rfl (by decide) rfl (pgB_mv15 _ 43).symm ?_
  rw [pgB_mv15]
  repeat (first | refine BCase.yes rfl ?_ | refine BCase.no rfl ?_)
  refine (rText [clA 97, clA 98, clA 99, clA 100] (by decide)).sem _ ?_
  repeat (first | refine BCase.yes rfl ?_ | refine BCase.no rfl ?_)
  refine (showsF s1).call [0, 1, 2, 3, 4, 5, 6] 43 rfl rfl (by decide) rfl (pgB_mv0 _ 43).symm ?_
  rw [pgB_mv0]
  repeat (first | refine BCase.yes rfl ?_ | refine BCase.no rfl ?_)
  rfl
end Go.Cx
