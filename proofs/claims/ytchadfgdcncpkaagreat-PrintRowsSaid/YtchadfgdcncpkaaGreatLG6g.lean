/- What functions of this seat compute, each for every argument of the shapes that are named; no condition beside the stated ones. -/
import Derived.Test.YtchadfgdcncpkaaGreatLQAg
import Derived.Test.YtchadfgdcncpkaaGreatCx23
namespace Go.Cx
open Go.Proofs Go.Row
set_option maxRecDepth 100000
set_option maxHeartbeats 4000000
def mayB (r c : Int) : Bool := decide (1 ≤ r ∧ 1 ≤ c ∧ r ≤ 512 ∧ c ≤ 512)
theorem gMay (r c : Int) : Fn Tryz.prog 76 [.int .i64 r, .int .i64 c] (.bool (mayB r c)) := by
  refine Fn.of_body tysOk md0 Tryz.func76 rfl rfl rfl rfl ?_
  have hm : (if c < r then c else r) ≥ 1 ↔ 1 ≤ r ∧ 1 ≤ c := by split <;> omega
  refine ⟨fun h1 => ?_, fun h1 => ?_⟩
  · have h1 := hm.1 (of_decide_eq_true h1)
    repeat (first | refine BCase.yes rfl ?_ | refine BCase.no rfl ?_)
    refine ⟨fun h2 => ?_, fun h2 => ?_⟩
    · have h2 : r ≤ 512 := of_decide_eq_true h2
      repeat (first | refine BCase.yes rfl ?_ | refine BCase.no rfl ?_)
      show V.bool (decide (c ≤ 512)) = _
      unfold mayB
      simp [h1, h2]
    · have h2 : ¬ r ≤ 512 := of_decide_eq_false h2
      repeat (first | refine BCase.yes rfl ?_ | refine BCase.no rfl ?_)
      show V.bool false = _
      unfold mayB
      simp [h2]
  · have h1 : ¬ (1 ≤ r ∧ 1 ≤ c) := fun e => of_decide_eq_false h1 (hm.2 e)
    repeat (first | refine BCase.yes rfl ?_ | refine BCase.no rfl ?_)
    show V.bool false = _
    unfold mayB
    rw [decide_eq_false (fun e => h1 ⟨e.1, e.2.1⟩)]
/-! ### Resize -/
noncomputable def hpRe (g : Gr) (R C : Nat) (b : Cl) (i : Nat) : Heap := [some (.cells 148 (grC 0 g)), some (rowsB g (upto g.rows (fun r => rresize r C b) i)), some (.cells 83 [.ptr 0 0]), some (.cells 3 [.int .i64 C]), some (.cells 46 (Cl.cs b)), some (.cells 83 [.ptr 0 0]),
  loopB Tryz.f118 0 ([.ptr 0 0, .int .i64 R, .undef, .undef, .ptr 2 0, .undef, .ptr 3 0, .ptr 4 0, .bool false, .undef, .undef, .undef, .undef, .undef, .undef, .undef, .undef, .undef, .undef, .undef, .undef, .fn (.func 154) [] [.ptr 5 0]] ++ List.replicate 40 .undef)]
def resizeG (g : Gr) (R C : Nat) (b : Cl) : Gr :=
  if R ≤ g.rows.length then { rows := (g.rows.map fun r => rresize r C b).take R, cols := C, ver := g.ver, ex := true, more := (g.rows.map fun r => rresize r C b).drop R ++ g.more }
  else { rows := (g.rows.map fun r => rresize r C b) ++ List.replicate (R - g.rows.length) (List.replicate C b), cols := C, ver := g.ver + 1 + 0, ex := false, more := [] }
theorem gResize (g : Gr) (hg : g.ok) (R C : Nat) (hm : mayB R C = true) (b : Cl) : Eff Tryz.prog 118 [.ptr 0 0, .int .i64 R, .int .i64 C, Cl.v b] (grB g) (grB (resizeG g R C b)) (.bool true) := by
  have hmm := of_decide_eq_true hm
  refine Eff.of rfl rfl (grB_ok g) (grB_ok _) (Nat.le_refl _) (Sem.move (Sem.of_body tysOk md0 Tryz.func118 rfl rfl ?_))
  repeat (first | refine BCase.yes rfl ?_ | refine BCase.no rfl ?_)
  refine (gMay R C).sem _ ?_
  repeat (first | refine BCase.yes rfl ?_ | refine BCase.no rfl ?_)
  refine BCase.no (by rw [hm]; rfl) ?_
  refine Sem.of_body tysOk md0 Tryz.func134 rfl rfl ?_
  refine RangeP.fgt ([.ptr 0 0, .int .i64 R, .undef, .undef, .ptr 2 0, .undef, .ptr 3 0, .ptr 4 0, .bool false, .undef, .undef, .undef, .undef, .undef, .undef, .undef, .undef, .undef, .undef, .undef, .undef, .fn (.func 154) [] [.ptr 5 0]] ++ List.replicate 40 .undef) (by repeat (first | exact trivial | refine ⟨.inl rfl, ?_⟩ | refine ⟨.inr rfl, ?_⟩)) ?_
  refine RangeP.intro rfl rfl ?_
  refine Sem.of_body tysOk md0 Tryz.func154 rfl rfl ?_
  refine BCase.no rfl ?_
  refine LoopP.inv (md := md0) (fun k env h => ∃ (i : Nat), k = g.rows.length - i ∧ i ≤ g.rows.length ∧ env = envAll 6 5 g.rows.length g.ex g.ver i ∧ h = hpRe g R C b i) g.rows.length ⟨envAll 6 5 g.rows.length g.ex g.ver 0, _, .same (by repeat (first | exact trivial | refine ⟨.inl rfl, ?_⟩ | refine ⟨.inr rfl, ?_⟩)) rfl, 0, rfl, Nat.zero_le _, rfl, rfl⟩ ?_
  rintro k _ _ ⟨i, rfl, hi, rfl, rfl⟩
  have hc2 := hg.c2
  have hn2 := hg.n2
  refine ⟨fun h => ?_, fun h => ?_⟩
  · have hi' : i < g.rows.length := by have := of_decide_eq_true h; omega
    obtain ⟨r, hr⟩ : ∃ r, g.rows[i]? = some r := ⟨_, List.getElem?_eq_getElem hi'⟩
    have hrl : r.length = g.cols := hg.len r (List.mem_of_getElem? hr)
    have hul := upto_len g.rows (fun r => rresize r C b) i
    have hidx : (decide (0 ≤ (i : Int)) && decide ((i : Int) < g.rows.length)) = true := by rw [Bool.and_eq_true]; exact ⟨decide_eq_true (by omega), decide_eq_true (by omega)⟩
    have hq : 0 + (i : Int).toNat * 1 = i := by rw [Int.toNat_natCast]; omega
    refine gdP hidx ?_
    refine ⟨_, ldRow rfl rfl (by rw [List.getElem?_append_left (by omega)]; exact upto_get hr) hq, ?_⟩
    refine RoundP.intro rfl rfl (Wp.of (md := md0) tysOk ?_)
    conv => whnf
    refine Wp.of (md := md0) tysOk ?_
    refine DrawP.intro tysOk mixed false ?_
    refine ⟨_, (rRes r (by omega) C (by omega) b).callT _ _, ?_⟩
    refine gdP hidx ?_
    refine gdP (st_ok (by omega) hq) ?_
    refine ⟨by kernel_rfl, ?_⟩
    refine BCase.no rfl ?_
    refine ⟨g.rows.length - (i + 1), envAll 6 5 g.rows.length g.ex g.ver (i + 1 : Nat), hpRe g R C b (i + 1), by omega, .same ?_ ?_, i + 1, rfl, hi', rfl, rfl⟩
    · repeat (first | exact trivial | refine ⟨.inl rfl, ?_⟩ | refine ⟨.inl (congrArg (V.int .i64) (wrs i 1 (by omega)).symm), ?_⟩ | refine ⟨.inr rfl, ?_⟩)
    · have hs := rowsB_set (g := g) (l := upto g.rows (fun r => rresize r C b) i) (k := i) (q := 0 + (i : Int).toNat * 1) (by omega) hq (rresize r C b)
      rw [upto_set (F := fun r => rresize r C b) hr] at hs
      exact congrArg (fun b => [_, some b, _, _, _, _, _]) hs.symm
  · have hi' : i = g.rows.length := by have := of_decide_eq_false h; omega
    subst hi'
    refine DrawP.intro tysOk mixed false ?_
    have hup := upto_full g.rows (fun r => rresize r C b)
    have hn1 := hg.n1
    have hlm : (g.rows.map fun r => rresize r C b).length = g.rows.length := by simp
    have ho : ∀ kp : Int, (bif kp.toNat.beq (Int.toNat 0) then 0 else 0 + Int.toNat 0 * 1) = 0 := fun kp => by cases kp.toNat.beq (Int.toNat 0) <;> rfl
    refine gdP (sl_ok (b := (if (g.rows.length : Int) < (R : Int) then (g.rows.length : Int) else (R : Int))) (n := (if (g.rows.length : Int) < (R : Int) then (g.rows.length : Int) else (R : Int))) (Int.le_refl _) (by split <;> omega) (Int.le_refl _) (by split <;> omega)) ?_
    rcases Nat.lt_or_ge g.rows.length R with hR | hR
    · have hkp : (if (g.rows.length : Int) < (R : Int) then (g.rows.length : Int) else (R : Int)) = (g.rows.length : Int) := if_pos (by omega)
      obtain ⟨m, hm1⟩ : ∃ m, R - g.rows.length = m + 1 := ⟨R - g.rows.length - 1, by omega⟩
      have hw : IntKind.i64.wrap ((R : Int) - (if (g.rows.length : Int) < (R : Int) then (g.rows.length : Int) else (R : Int))) = ((m + 1 : Nat) : Int) := by rw [hkp, wri (by omega) (by omega)]; omega
      refine ⟨_, (gBlanks m (by omega) C (by omega) b).callT [] 7 rfl (by rw [hw]; rfl) (by decide) rfl rfl, ?_⟩
      have hm2 : m ≤ 512 := by omega
      have hblen : (rowsC (List.replicate (m + 1) (List.replicate C b))).length = m + 1 := by rw [rowsC_len, List.length_replicate]
      have hkt : (if (g.rows.length : Int) < (R : Int) then (g.rows.length : Int) else (R : Int)).toNat - Int.toNat 0 = g.rows.length := by rw [hkp]; simp
      have hcl : (rowsC (upto g.rows (fun r => rresize r C b) g.rows.length ++ g.more)).length = g.rows.length + g.more.length := by rw [rowsC_len, List.length_append, upto_len]
      refine ⟨_, _, _, _, apNew (x := .gsl 7 1 0 (m + 1) (m + 1) false m) (lo := (if (g.rows.length : Int) < (R : Int) then (g.rows.length : Int) else (R : Int)).toNat - Int.toNat 0) (n := (if (g.rows.length : Int) < (R : Int) then (g.rows.length : Int) else (R : Int)).toNat - Int.toNat 0) (o := (bif (if (g.rows.length : Int) < (R : Int) then (g.rows.length : Int) else (R : Int)).toNat.beq (Int.toNat 0) then 0 else 0 + Int.toNat 0 * 1)) (cs := rowsC (upto g.rows (fun r => rresize r C b) g.rows.length ++ g.more)) (ver := g.ver) (el := ⟨Nat.beq 1 1 && Nat.beq m m && Nat.ble (0 + (m + 1) * 1) (rowsC (List.replicate (m + 1) (List.replicate C b))).length, m + 1, ((rowsC (List.replicate (m + 1) (List.replicate C b))).drop 0).take ((m + 1) * 1), [7]⟩) rfl rfl rfl rfl rfl rfl rfl rfl rfl (Nat.succ_ne_zero m) rfl (by show _ < _ + (m + 1); omega) rfl ?_ ?_ ?_, ?_⟩
      · rw [ho, hkt, hcl]; show 0 + g.rows.length * 1 ≤ _; omega
      · show (Nat.beq 1 1 && Nat.beq m m && Nat.ble (0 + (m + 1) * 1) (rowsC (List.replicate (m + 1) (List.replicate C b))).length) = true
        have hmm' : Nat.beq m m = true := Nat.beq_refl m
        rw [hblen, hmm', Nat.ble_eq_true_of_le (by omega)]; rfl
      · show (true && true && Nat.ble (((if (g.rows.length : Int) < (R : Int) then (g.rows.length : Int) else (R : Int)).toNat - Int.toNat 0 + (m + 1)) * 48) 281474976710656) = true
        rw [hkt, Nat.ble_eq_true_of_le (by omega)]; rfl
      refine ⟨by kernel_rfl, ?_⟩
      have hre : resizeG g R C b = { rows := (g.rows.map fun r => rresize r C b) ++ List.replicate (m + 1) (List.replicate C b), cols := C, ver := g.ver + 1 + 0, ex := false, more := [] } := by unfold resizeG; rw [if_neg (by omega), hm1]
      have hcont : ((rowsC (upto g.rows (fun r => rresize r C b) g.rows.length ++ g.more)).drop (bif (if (g.rows.length : Int) < (R : Int) then (g.rows.length : Int) else (R : Int)).toNat.beq (Int.toNat 0) then 0 else 0 + Int.toNat 0 * 1)).take (((if (g.rows.length : Int) < (R : Int) then (g.rows.length : Int) else (R : Int)).toNat - Int.toNat 0) * 1) ++ ((rowsC (List.replicate (m + 1) (List.replicate C b))).drop 0).take ((m + 1) * 1) = rowsC ((g.rows.map fun r => rresize r C b) ++ List.replicate (m + 1) (List.replicate C b)) := by
        rw [ho, hkt, hup, List.drop_zero, List.drop_zero, Nat.mul_one, Nat.mul_one, List.take_of_length_le (Nat.le_of_eq hblen)]
        unfold rowsC
        rw [List.map_append, List.map_append, List.take_left' (by simp)]
      refine .inr ⟨1, 8, 0, g.ver, g.ver, 0, 1, (if (g.rows.length : Int) < (R : Int) then (g.rows.length : Int) else (R : Int)).toNat - Int.toNat 0 + (m + 1), (if (g.rows.length : Int) < (R : Int) then (g.rows.length : Int) else (R : Int)).toNat - Int.toNat 0 + (m + 1), false, 75, 75, 75, 148, 1, 1, rowsC (g.rows ++ g.more), _, _, [], [.int .i64 C], rfl, rfl, by show 2 ≤ 8; decide, by decide, by decide, by decide, rfl, ?_, rfl, rfl, rfl, rfl, fun k bk hk1 hk2 hk => ?_, rfl, by show 2 ≤ 9; decide, .inl ?_, .inl ?_, trivial⟩
      · rw [hcont]; exact rowsC_free _
      · match k, hk with
        | 1, hk => obtain rfl := Option.some.inj (show some _ = some bk from hk); show (rowsC _).all (V.refs _) = true; rw [List.all_eq_true]; exact fun x hx => free1_refs' (List.all_eq_true.1 (rowsC_free _) x hx)
        | 2, hk => obtain rfl := Option.some.inj (show some _ = some bk from hk); rfl
        | 3, hk => obtain rfl := Option.some.inj (show some _ = some bk from hk); rfl
        | 4, hk => obtain rfl := Option.some.inj (show some _ = some bk from hk); rfl
        | 5, hk => obtain rfl := Option.some.inj (show some _ = some bk from hk); rfl
        | 7, hk => obtain rfl := Option.some.inj (show some _ = some bk from hk); show (rowsC _).all (V.refs _) = true; rw [List.all_eq_true]; exact fun x hx => free1_refs' (List.all_eq_true.1 (rowsC_free _) x hx)
        | 0, hk => exact absurd rfl hk2
        | 8, hk => exact absurd rfl hk1
        | 6, hk => cases hk
        | k + 9, hk => simp [hget] at hk
      · show some (Blk.cells _ (grC 0 (resizeG g R C b))) = some (Blk.cells _ [.gsl 1 1 0 ((if (g.rows.length : Int) < (R : Int) then (g.rows.length : Int) else (R : Int)).toNat - Int.toNat 0 + (m + 1)) ((if (g.rows.length : Int) < (R : Int) then (g.rows.length : Int) else (R : Int)).toNat - Int.toNat 0 + (m + 1)) false (g.ver + 1 + 0), .int .i64 C])
        rw [hkt, hre]
        unfold grC
        simp only [List.length_append, hlm, List.length_replicate]
      · show some (grR (resizeG g R C b)) = some (Blk.grow (g.ver + 1 + 0) _ _ (((rowsC (upto g.rows (fun r => rresize r C b) g.rows.length ++ g.more)).drop (bif (if (g.rows.length : Int) < (R : Int) then (g.rows.length : Int) else (R : Int)).toNat.beq (Int.toNat 0) then 0 else 0 + Int.toNat 0 * 1)).take (((if (g.rows.length : Int) < (R : Int) then (g.rows.length : Int) else (R : Int)).toNat - Int.toNat 0) * 1) ++ ((rowsC (List.replicate (m + 1) (List.replicate C b))).drop 0).take ((m + 1) * 1)))
        rw [hcont, hre]
        unfold grR
        rw [List.append_nil]
    · have hkp : (if (g.rows.length : Int) < (R : Int) then (g.rows.length : Int) else (R : Int)) = (R : Int) := if_neg (by omega)
      have hw : IntKind.i64.wrap ((R : Int) - (if (g.rows.length : Int) < (R : Int) then (g.rows.length : Int) else (R : Int))) ≤ 0 := by rw [hkp, wri (by omega) (by omega)]; omega
      refine ⟨_, (gBlanks0 (IntKind.i64.wrap ((R : Int) - (if (g.rows.length : Int) < (R : Int) then (g.rows.length : Int) else (R : Int)))) hw C b).callT _ _, ?_⟩
      refine ⟨_, _, _, _, apNone (x := .nils) (el := ⟨true, 0, [], []⟩) rfl rfl rfl rfl rfl rfl rfl rfl rfl rfl rfl rfl (fun _ _ e => by cases e), ?_⟩
      refine ⟨by kernel_rfl, ?_⟩
      have hkt : (if (g.rows.length : Int) < (R : Int) then (g.rows.length : Int) else (R : Int)).toNat - Int.toNat 0 = R := by rw [hkp]; simp
      have hre : resizeG g R C b = { rows := (g.rows.map fun r => rresize r C b).take R, cols := C, ver := g.ver, ex := true, more := (g.rows.map fun r => rresize r C b).drop R ++ g.more } := by unfold resizeG; rw [if_pos hR]
      refine .inl ⟨rfl, by show 2 ≤ 7; decide, .inl ?_, .inl ?_, trivial⟩
      · show some (Blk.cells _ (grC 0 (resizeG g R C b))) = some (Blk.cells _ [.gsl 1 1 (bif (if (g.rows.length : Int) < (R : Int) then (g.rows.length : Int) else (R : Int)).toNat.beq (Int.toNat 0) then 0 else 0 + Int.toNat 0 * 1) ((if (g.rows.length : Int) < (R : Int) then (g.rows.length : Int) else (R : Int)).toNat - Int.toNat 0) ((if (g.rows.length : Int) < (R : Int) then (g.rows.length : Int) else (R : Int)).toNat - Int.toNat 0) true g.ver, .int .i64 C])
        rw [ho, hkt, hre]
        unfold grC
        simp only [List.length_take, hlm, Nat.min_eq_left hR]
      · show some (grR (resizeG g R C b)) = some (rowsB g (upto g.rows (fun r => rresize r C b) g.rows.length))
        rw [hup, hre]
        unfold grR rowsB
        simp only [← List.append_assoc, List.take_append_drop]
end Go.Cx
namespace Go.Cx
open Go.Proofs Go.Row
set_option maxRecDepth 100000
set_option maxHeartbeats 4000000
def newGr (n C : Nat) (b : Cl) : Gr := { rows := List.replicate (n + 1) (List.replicate C b), cols := C, ver := n, ex := false, more := [] }
theorem gNew (n C : Nat) (hm : mayB (n + 1 : Nat) C = true) (b : Cl) : Eff Tryz.prog 36 [.int .i64 (n + 1 : Nat), .int .i64 C, Cl.v b] [] (grB (newGr n C b)) (.ptr 0 0) := by
  have hmm := of_decide_eq_true hm
  refine Eff.ofP rfl rfl rfl (grB_ok _) (Nat.zero_le _) (Sem.of_body tysOk md0 Tryz.func36 rfl rfl ?_)
  refine (gMay _ _).sem _ ?_
  refine BCase.no (by rw [hm]; rfl) ?_
  refine (gBlanks n (by omega) C (by omega) b).call [] 2 rfl rfl (by decide) rfl rfl ?_
  refine ⟨[1, 2], 3, rfl, by decide, fun i hi => absurd hi (Nat.not_lt_zero _), rfl, ?_⟩
  show [some (Blk.cells _ [.gsl 2 1 0 (n + 1) (n + 1) false n, .int .i64 C]), some (Blk.grow n _ 1 (rowsC (List.replicate (n + 1) (List.replicate C b))))] = [some (Blk.cells _ [.gsl 2 1 0 (List.replicate (n + 1) (List.replicate C b)).length (List.replicate (n + 1) (List.replicate C b)).length false n, .int .i64 C]), some (Blk.grow n _ 1 (rowsC (List.replicate (n + 1) (List.replicate C b) ++ [])))]
  rw [List.length_replicate, List.append_nil]
theorem gNew0 (R C : Int) (hm : mayB R C = false) (b : Cl) : Fn Tryz.prog 36 [.int .i64 R, .int .i64 C, Cl.v b] .nilp := by
  refine Fn.of_body tysOk md0 Tryz.func36 rfl rfl rfl rfl ?_
  refine (gMay _ _).sem _ ?_
  refine BCase.yes (by rw [hm]; rfl) ?_
  rfl
end Go.Cx
namespace Go.Cx
open Go.Proofs Go.Row
set_option maxRecDepth 100000
set_option maxHeartbeats 4000000
/-! ### slices.Grow, slices.Concat -/
theorem nils_free (n : Nat) : (List.replicate n V.nils).all V.free1 = true := by
  rw [List.all_eq_true]; intro x hx; rw [(List.mem_replicate.1 hx).2]; rfl
theorem zerosV_one (v : V) (n : Nat) : zerosV [v] n = List.replicate n v := by
  unfold zerosV; induction n with
  | zero => rfl
  | succ n ih => rw [List.replicate_succ, List.flatten_cons, ih, List.replicate_succ]; rfl
theorem sGrow (n : Nat) (h0 : 0 < n) (hn : n < 100000) : Eff Tryz.prog 178 [.nils, .int .i64 n] [] [.grow 0 75 1 (List.replicate n .nils)] (.gsl 0 1 0 0 n false 0) := by
  have hw : IntKind.i64.wrap ((n : Int) - IntKind.i64.wrap (0 - 0)) = n := by rw [show IntKind.i64.wrap (0 - 0) = 0 from rfl, wri (by omega) (by omega)]; omega
  refine Eff.ofP rfl rfl rfl (by show ((List.replicate n V.nils).all V.free1 && true) = true; rw [nils_free]; rfl) (Nat.zero_le _) (Sem.of_body tysOk md0 Tryz.func178 rfl rfl ?_)
  refine BCase.no (decide_eq_false (by omega)) ?_
  refine BCase.yes (by rw [hw]; exact decide_eq_true (by omega)) ?_
  refine ⟨_, _, _, _, apZeros (n := IntKind.i64.wrap ((n : Int) - IntKind.i64.wrap (0 - 0))) (k' := .i64) rfl rfl rfl rfl rfl rfl rfl rfl rfl rfl (by rw [hw]; omega) ?_, ?_⟩
  · rw [hw]
    show (true && true && Nat.ble ((0 + (n : Int).toNat) * 48) 281474976710656) = true
    rw [Nat.ble_eq_true_of_le (by omega)]; rfl
  refine ⟨_, _, _, _, slGsl (l := 0) (m := 0) rfl rfl rfl rfl rfl rfl rfl (Int.le_refl _) (Int.le_refl _) (by omega) (.inr rfl), ?_⟩
  refine ⟨[0], 1, rfl, by decide, fun i hi => absurd hi (Nat.not_lt_zero _), ?_, ?_⟩
  · show V.gsl 0 1 (0 + 0 * 1) (0 - 0) (0 + (IntKind.i64.wrap ((n : Int) - IntKind.i64.wrap (0 - 0))).toNat - 0) false 0 = V.gsl 0 1 0 0 n false 0
    rw [hw, Int.toNat_natCast]
    show V.gsl 0 1 0 0 (0 + n - 0) false 0 = _
    rw [Nat.zero_add, Nat.sub_zero]
  · show [some (Blk.grow 0 _ 1 ([] ++ zerosV [V.nils] (IntKind.i64.wrap ((n : Int) - IntKind.i64.wrap (0 - 0))).toNat))] = [some (Blk.grow 0 _ 1 (List.replicate n V.nils))]
    rw [hw, Int.toNat_natCast, zerosV_one]; rfl
/-- Two slices of rows. -/
structure Sl where
  l : List (List Cl)
  o : Nat
  n : Nat
  lo : Nat
  ex : Bool
  ver : Nat
def Sl.part (s : Sl) : List (List Cl) := (s.l.drop s.o).take s.n
def Sl.v (id : Nat) (s : Sl) : V := .gsl id 1 s.o s.n s.lo s.ex s.ver
def Sl.b (s : Sl) : Blk := .grow s.ver 75 1 (rowsC s.l)
def catB (a b : Sl) : List Blk := [.cells 108 [a.v 1, b.v 2], a.b, b.b]
theorem rowsC_part (s : Sl) : ((rowsC s.l).drop s.o).take (s.n * 1) = rowsC s.part := by
  unfold Sl.part rowsC
  rw [Nat.mul_one, List.map_take, List.map_drop]
theorem rowsC_one (l : List (List Cl)) : allOne (rowsC l) = true := by
  unfold allOne
  rw [List.all_eq_true]
  intro x hx
  obtain ⟨r, _, rfl⟩ := List.mem_map.1 hx
  rfl
theorem cat_ok (a b : Sl) (l : List V) (hl : l.all V.free1 = true) : (catB a b ++ [Blk.grow 0 75 1 l]).all (Blk.okB 4) = true := by
  show (true && ((rowsC a.l).all V.free1 && ((rowsC b.l).all V.free1 && (l.all V.free1 && true)))) = true
  rw [rowsC_free, rowsC_free, hl]; rfl
theorem cat_ok0 (a b : Sl) : (catB a b).all (Blk.okB 3) = true := by
  show (true && ((rowsC a.l).all V.free1 && ((rowsC b.l).all V.free1 && true))) = true
  rw [rowsC_free, rowsC_free]; rfl
theorem part_len (s : Sl) (h : s.o + s.n ≤ s.l.length) : s.part.length = s.n := by unfold Sl.part; rw [List.length_take, List.length_drop]; omega
/-- What is read of a slice. -/
def Sl.el (s : Sl) (id : Nat) : El := ⟨Nat.beq 1 1 && Nat.beq s.ver s.ver && Nat.ble (s.o + s.n * 1) (rowsC s.l).length, s.n, ((rowsC s.l).drop s.o).take (s.n * 1), [id]⟩
theorem Sl.el_ok (s : Sl) (id : Nat) (h : s.o + s.n ≤ s.l.length) : (s.el id).ok = true := by
  show (Nat.beq 1 1 && Nat.beq s.ver s.ver && Nat.ble (s.o + s.n * 1) (rowsC s.l).length) = true
  have hv : Nat.beq s.ver s.ver = true := Nat.beq_refl _
  rw [hv, rowsC_len, Nat.ble_eq_true_of_le (by omega)]; rfl
theorem fill2 (z a b : List V) (hz : z.length = a.length + b.length) : setL (setL z 0 a) a.length b = a ++ b := by
  unfold setL
  rw [List.take_zero, List.nil_append, Nat.zero_add, List.take_left, List.drop_append, List.drop_of_length_le (by omega : a.length ≤ a.length + b.length), List.drop_drop, List.drop_of_length_le (by omega), List.nil_append, List.append_nil]
theorem fill1 (z b : List V) (hz : z.length = b.length) : setL z 0 b = b := by
  unfold setL
  rw [List.take_zero, List.nil_append, Nat.zero_add, List.drop_of_length_le (by omega), List.append_nil]
theorem sConcat (a b : Sl) (ha : a.o + a.n ≤ a.l.length) (hb : b.o + b.n ≤ b.l.length) (hb0 : 0 < b.n) (hal : a.n < 10000) (hbl : b.n < 10000) :
    Eff Tryz.prog 177 [.lsl 0 1 0 2 2] (catB a b) (catB a b ++ [.grow 0 75 1 (rowsC (a.part ++ b.part))]) (.gsl 3 1 0 (a.n + b.n) (a.n + b.n) false 0) := by
  have hs : IntKind.i64.wrap (IntKind.i64.wrap (0 + (a.n : Int)) + (b.n : Int)) = ((a.n + b.n : Nat) : Int) := by rw [wri (n := 0 + (a.n : Int)) (by omega) (by omega), wri (by omega) (by omega)]; omega
  have hs1 : IntKind.i64.wrap (0 + (a.n : Int)) = a.n := by rw [wri (by omega) (by omega)]; omega
  have hpa := part_len a ha
  have hpb := part_len b hb
  refine Eff.of rfl rfl (cat_ok0 a b) (cat_ok a b _ (rowsC_free _)) (by show 3 ≤ 4; decide) (Sem.of_body tysOk md0 Tryz.func177 rfl rfl ?_)
  refine LoopP.unroll (md := md0) ?_
  refine BCase.yes rfl ?_
  refine gdP rfl ?_
  refine BCase.no (by rw [hs1]; exact decide_eq_false (by omega)) ?_
  refine LoopP.unroll (md := md0) ?_
  refine BCase.yes rfl ?_
  refine gdP rfl ?_
  refine BCase.no (by rw [hs]; exact decide_eq_false (by omega)) ?_
  refine LoopP.unroll (md := md0) ?_
  refine BCase.no rfl ?_
  refine (sGrow (a.n + b.n) (by omega) (by omega)).call [] 3 rfl (by rw [hs]; rfl) (by decide) rfl rfl ?_
  refine LoopP.unroll (md := md0) ?_
  refine BCase.yes rfl ?_
  refine gdP rfl ?_
  have zl : (List.replicate (a.n + b.n) V.nils).length = a.n + b.n := by simp
  rcases Nat.eq_zero_or_pos a.n with h0 | h0
  · refine ⟨_, _, _, _, apNone (x := a.v 1) (el := a.el 1) rfl rfl rfl rfl rfl rfl rfl rfl rfl h0 rfl (a.el_ok 1 ha) (fun _ _ e => by cases e), ?_⟩
    refine LoopP.unroll (md := md0) ?_
    refine BCase.yes rfl ?_
    refine gdP rfl ?_
    refine ⟨_, _, _, _, apFit (x := b.v 2) (el := b.el 2) (cs := List.replicate (a.n + b.n) V.nils) rfl rfl rfl rfl rfl rfl rfl rfl rfl (by show b.n ≠ 0; omega) rfl (by show 0 + b.n ≤ a.n + b.n; omega) rfl (by rw [zl]; show 0 + 0 * 1 + b.n * 1 ≤ _; omega) (b.el_ok 2 hb) ?_, ?_⟩
    · show allOne (((rowsC b.l).drop b.o).take (b.n * 1)) = true
      rw [rowsC_part]; exact rowsC_one _
    refine LoopP.unroll (md := md0) ?_
    refine BCase.no rfl ?_
    refine ⟨?_, by show 4 ≤ 4; decide, .inl rfl, .inl rfl, .inl rfl, .inl ?_, trivial⟩
    · show V.gsl 3 1 0 (0 + b.n) (a.n + b.n) false 0 = _
      rw [h0] <;> simp
    · show some (Blk.grow 0 _ 1 (rowsC (a.part ++ b.part))) = some (Blk.grow 0 _ 1 (setL (List.replicate (a.n + b.n) V.nils) (0 + 0 * 1) (((rowsC b.l).drop b.o).take (b.n * 1))))
      have hpa0 : a.part = [] := List.eq_nil_of_length_eq_zero (by rw [hpa]; exact h0)
      rw [rowsC_part, hpa0, show 0 + 0 * 1 = 0 from rfl, fill1 _ _ (by rw [zl, rowsC_len, hpb]; omega)]
      try rfl
  · refine ⟨_, _, _, _, apFit (x := a.v 1) (el := a.el 1) (cs := List.replicate (a.n + b.n) V.nils) rfl rfl rfl rfl rfl rfl rfl rfl rfl (by show a.n ≠ 0; omega) rfl (by show 0 + a.n ≤ a.n + b.n; omega) rfl (by rw [zl]; show 0 + 0 * 1 + a.n * 1 ≤ _; omega) (a.el_ok 1 ha) ?_, ?_⟩
    · show allOne (((rowsC a.l).drop a.o).take (a.n * 1)) = true
      rw [rowsC_part]; exact rowsC_one _
    refine LoopP.unroll (md := md0) ?_
    refine BCase.yes rfl ?_
    refine gdP rfl ?_
    have zl2 : (setL (List.replicate (a.n + b.n) V.nils) (0 + 0 * 1) (((rowsC a.l).drop a.o).take (a.n * 1))).length = a.n + b.n := by
      rw [setL_length, zl]
      rw [zl, rowsC_part, rowsC_len, hpa]; omega
    refine ⟨_, _, _, _, apFit (x := b.v 2) (el := b.el 2) (n := 0 + a.n) (cs := setL (List.replicate (a.n + b.n) V.nils) (0 + 0 * 1) (((rowsC a.l).drop a.o).take (a.n * 1))) rfl rfl rfl rfl rfl rfl rfl rfl rfl (by show b.n ≠ 0; omega) rfl (by show 0 + a.n + b.n ≤ a.n + b.n; omega) rfl (by rw [zl2]; show 0 + (0 + a.n) * 1 + b.n * 1 ≤ _; omega) (b.el_ok 2 hb) ?_, ?_⟩
    · show allOne (((rowsC b.l).drop b.o).take (b.n * 1)) = true
      rw [rowsC_part]; exact rowsC_one _
    refine LoopP.unroll (md := md0) ?_
    refine BCase.no rfl ?_
    refine ⟨?_, by show 4 ≤ 4; decide, .inl rfl, .inl rfl, .inl rfl, .inl ?_, trivial⟩
    · show V.gsl 3 1 0 (0 + a.n + b.n) (a.n + b.n) false 0 = _
      rw [Nat.zero_add]
    · show some (Blk.grow 0 _ 1 (rowsC (a.part ++ b.part))) = some (Blk.grow 0 _ 1 (setL (setL (List.replicate (a.n + b.n) V.nils) (0 + 0 * 1) (((rowsC a.l).drop a.o).take (a.n * 1))) (0 + (0 + a.n) * 1) (((rowsC b.l).drop b.o).take (b.n * 1))))
      have hab : rowsC (a.part ++ b.part) = rowsC a.part ++ rowsC b.part := by simp [rowsC]
      have hla : (rowsC a.part).length = a.n := by rw [rowsC_len, hpa]
      rw [rowsC_part, rowsC_part, hab, show 0 + 0 * 1 = 0 from rfl, show 0 + (0 + a.n) * 1 = (rowsC a.part).length by rw [hla]; omega, fill2 _ _ _ (by rw [zl, hla, rowsC_len, hpb])]
end Go.Cx
namespace Go.Cx
open Go.Proofs Go.Row
set_option maxRecDepth 100000
set_option maxHeartbeats 8000000
/-! ### Up: rows scroll, and those that go are handed out -/
def rowsP (l : List (List Cl)) : List (List V) := l.map fun r => [rowV r]
def upRows (l : List (List Cl)) (t len k : Nat) (c : List Cl) : List (List Cl) := l.take t ++ (((l.drop (t + k)).take (len - k) ++ List.replicate k c) ++ l.drop (t + len))
def envS (t bt n : Int) (b : Cl) (len k : Nat) (tt : Nat) (ver : Nat) : List V :=
  [.ptr 0 0, .int .i64 t, .int .i64 bt, .int .i64 k, Cl.v b, .bool true, .undef, .undef, .undef, .undef, .ptr 2 0, .undef, .nils, .gsl 1 1 tt len len true ver, .int .i64 k] ++ List.replicate 88 .undef
def midUp (l : List (List Cl)) (t len k : Nat) (c : List Cl) : List (List Cl) := (l.drop (t + k)).take (len - k) ++ List.replicate k c
theorem midUp_len (l : List (List Cl)) (t len k : Nat) (c : List Cl) (hk : k ≤ len) (h : t + len ≤ l.length) : (midUp l t len k c).length = len := by
  unfold midUp; rw [List.length_append, List.length_take, List.length_drop, List.length_replicate]; omega
theorem upRows_eq (l more : List (List Cl)) (t len k : Nat) (c : List Cl) (hk : k ≤ len) (h : t + len ≤ l.length) : setL (rowsC (l ++ more)) t (rowsC (midUp l t len k c)) = rowsC (upRows l t len k c ++ more) := by
  have hm := midUp_len l t len k c hk h
  unfold setL
  rw [rowsC_len, hm]
  unfold rowsC upRows
  rw [← List.map_take, ← List.map_drop, ← List.map_append, ← List.map_append]
  congr 1
  rw [List.take_append_of_le_length (by omega), List.drop_append_of_le_length (by omega)]
  unfold midUp
  simp [List.append_assoc]
theorem upRows_len (l : List (List Cl)) (t len k : Nat) (c : List Cl) (hk : k ≤ len) (h : t + len ≤ l.length) : (upRows l t len k c).length = l.length := by
  have hm := midUp_len l t len k c hk h
  unfold upRows
  unfold midUp at hm
  rw [List.length_append, List.length_append, hm, List.length_take, List.length_drop]; omega
noncomputable def codeSc : Code := match Tryz.f174.body with | some c => c | none => .skip
def envS2 (t bt : Int) (b : Cl) (len k tt ver o lo : Nat) : List V :=
  [.ptr 0 0, .int .i64 t, .int .i64 bt, .int .i64 k, Cl.v b, .bool true, .undef, .undef, .undef, .undef, .ptr 2 0, .undef, .nils, .gsl 1 1 tt len len true ver, .int .i64 k, .gsl 1 1 (tt + 0 * 1) (k - 0) (len - 0) true ver, .gsl 1 1 o (len - k) lo true ver] ++ List.replicate 86 .undef
def envS3 (t bt : Int) (b : Cl) (len k tt ver o lo N : Nat) (i : Nat) (gone : List (List Cl)) : List V :=
  [.ptr 0 0, .int .i64 t, .int .i64 bt, .int .i64 k, Cl.v b, .bool true, .undef, .undef, .undef, .undef, .ptr 2 0, .undef, .nils, .gsl 1 1 tt len len true ver, .int .i64 k, .gsl 1 1 (tt + 0 * 1) (k - 0) (len - 0) true ver, .gsl 1 1 o (len - k) lo true ver, .undef, .gsl 5 1 0 N N false 0, .psl 1 (rowsP gone) (.own 6)] ++ List.replicate 67 .undef ++ [.gsl 1 1 (tt + 0 * 1) (k - 0) (len - 0) true ver, .int .i64 (k - 0 : Nat), .int .i64 i] ++ List.replicate 13 .undef
theorem scTail (g : Gr) (hg : g.ok) (t bt : Nat) (ht : t ≤ bt) (hb : bt < g.rows.length) (b : Cl) (len k o lo : Nat) (hlen : len = bt + 1 - t) (hk1 : 1 ≤ k) (hk2 : k ≤ len) (ho : o + (len - k) ≤ g.rows.length) (hpart : ((g.rows ++ g.more).drop o).take (len - k) = (g.rows.drop (t + k)).take (len - k))
    {Q : X → List V → Heap → Prop} (hQ : ∀ env' h' , env'[12]? = some (.psl 1 (rowsP ((g.rows.drop t).take k)) (.own 6)) → 2 ≤ h'.length → dropH (h'.take 2) (hpOf (grB { g with rows := upRows g.rows t len k (List.replicate g.cols b) })) → Q .ret env' h') :
    Wp Tryz.prog TT (tails codeSc 7) (envS2 t bt b len k t g.ver o lo) (hpOf (grB g) ++ [some (.cells 46 (Cl.cs b))]) Q := by
  have hn2 := hg.n2
  have hc1 := hg.c1
  have hc2 := hg.c2
  obtain ⟨m, hm⟩ : ∃ m, k = m + 1 := ⟨k - 1, by omega⟩
  refine Wp.of (md := md0) tysOk ?_
  refine DrawP.intro tysOk mixed false ?_
  refine ⟨_, (gBlanks m (by omega) g.cols (by omega) b).callT [] 3 rfl (by rw [hm]; rfl) (by decide) rfl rfl, ?_⟩
  refine ⟨by kernel_rfl, ?_⟩
  refine (sConcat ⟨g.rows ++ g.more, o, len - k, lo, true, g.ver⟩ ⟨List.replicate (m + 1) (List.replicate g.cols b), 0, m + 1, m + 1, false, m⟩ (by rw [List.length_append]; show o + (len - k) ≤ _; omega) (by rw [List.length_replicate]; show 0 + (m + 1) ≤ m + 1; omega) (Nat.succ_pos m) (by show len - k < _; omega) (by show m + 1 < _; omega)).call [4, 1, 3] 5 rfl rfl (by decide) rfl rfl ?_
  have hN : len - k + (m + 1) = len := by omega
  have hnow : (Sl.mk (g.rows ++ g.more) o (len - k) lo true g.ver).part ++ (Sl.mk (List.replicate (m + 1) (List.replicate g.cols b)) 0 (m + 1) (m + 1) false m).part = midUp g.rows t len k (List.replicate g.cols b) := by
    unfold Sl.part midUp
    simp only
    have hrp : (List.replicate (m + 1) (List.replicate g.cols b)).take (m + 1) = List.replicate (m + 1) (List.replicate g.cols b) := List.take_of_length_le (by simp)
    rw [hpart, List.drop_zero, hrp, hm]
  refine BCase.no rfl ?_
  refine LoopP.unroll (md := md0) ?_
  refine BCase.yes (decide_eq_true (by omega)) ?_
  refine gdP (by rw [Bool.and_eq_true]; exact ⟨decide_eq_true (Int.le_refl _), decide_eq_true (by omega)⟩) ?_
  have row : ∀ i, i < k → ∃ r, g.rows[t + i]? = some r ∧ r ≠ [] ∧ r.length < 1000000 := fun i hi => by
    obtain ⟨r, hr⟩ : ∃ r, g.rows[t + i]? = some r := ⟨_, List.getElem?_eq_getElem (by omega)⟩
    have hrl : r.length = g.cols := hg.len r (List.mem_of_getElem? hr)
    exact ⟨r, hr, fun e => by rw [e] at hrl; simp at hrl; omega, by omega⟩
  obtain ⟨r, hr, hr0, hrl⟩ := row 0 (by omega)
  refine ⟨_, ldRow rfl rfl (more_get hr) (by simp), ?_⟩
  refine (rClone r hr0 hrl).sem _ ?_
  let A : Sl := ⟨g.rows ++ g.more, o, len - k, lo, true, g.ver⟩
  let B : Sl := ⟨List.replicate (m + 1) (List.replicate g.cols b), 0, m + 1, m + 1, false, m⟩
  let hp : Nat → Heap := fun i => hpOf (grB g) ++ [some (.cells 46 (Cl.cs b)), some B.b, some (.cells 108 [A.v 1, B.v 3]), some (.grow 0 75 1 (rowsC (A.part ++ B.part))), some (.token 1 i)]
  have gone1 : (g.rows.drop t).take 1 = [r] := by
    obtain ⟨q1, q2⟩ := List.getElem?_eq_some_iff.1 hr
    rw [Nat.add_zero] at q1
    rw [List.drop_eq_getElem_cons q1]
    simp only [List.take_succ_cons, List.take_zero, List.cons.injEq, and_true]
    simpa using q2
  have gonel : ∀ i, i ≤ k → ((g.rows.drop t).take i).length = i := fun i hi => by rw [List.length_take, List.length_drop]; omega
  refine LoopP.inv (md := md0) (fun kk env h => ∃ (i : Nat), kk = k - i ∧ 1 ≤ i ∧ i ≤ k ∧ env = envS3 t bt b len k t g.ver o lo (len - k + (m + 1)) i ((g.rows.drop t).take i) ∧ h = hp i) (k - 1) ⟨envS3 t bt b len k t g.ver o lo (len - k + (m + 1)) 1 ((g.rows.drop t).take 1), hp 1, .same ?_ ?_, 1, rfl, Nat.le_refl _, hk1, rfl, rfl⟩ ?_
  · rw [gone1]
    repeat (first | exact trivial | refine ⟨.inl rfl, ?_⟩ | refine ⟨.inr rfl, ?_⟩)
  · rfl
  rintro kk _ _ ⟨i, rfl, hi1, hik, rfl, rfl⟩
  refine ⟨fun h => ?_, fun h => ?_⟩
  · have hi' : i < k := by have := of_decide_eq_true h; omega
    obtain ⟨r, hr, hr0, hrl⟩ := row i hi'
    refine gdP (by rw [Bool.and_eq_true]; exact ⟨decide_eq_true (by omega), decide_eq_true (by omega)⟩) ?_
    refine ⟨_, ldRow rfl rfl (more_get hr) (by rw [Int.toNat_natCast]; omega), ?_⟩
    refine (rClone r hr0 hrl).sem _ ?_
    have hgl : (rowsP ((g.rows.drop t).take i)).length = i := by unfold rowsP; rw [List.length_map, gonel i hik]
    refine gdP ?_ ?_
    · have hii : Nat.beq i i = true := Nat.beq_refl i
      show (true && true && Nat.beq i (rowsP ((g.rows.drop t).take i)).length && (true && true && Nat.ble (((rowsP ((g.rows.drop t).take i)).length + 1) * 48) 281474976710656)) = true
      rw [hgl, hii, Nat.ble_eq_true_of_le (by omega)]; rfl
    have hnext : rowsP ((g.rows.drop t).take (i + 1)) = rowsP ((g.rows.drop t).take i) ++ [[rowV r]] := by
      have hd : (g.rows.drop t)[i]? = some r := by rw [List.getElem?_drop]; exact hr
      obtain ⟨q1, q2⟩ := List.getElem?_eq_some_iff.1 hd
      rw [List.take_succ_eq_append_getElem q1, q2]
      simp [rowsP]
    have ev : V.psl 1 (rowsP ((g.rows.drop t).take (i + 1))) (.own 6) = V.psl 1 (rowsP ((g.rows.drop t).take i) ++ [[rowV r]]) (.own 6) := by rw [hnext]
    refine ⟨k - (i + 1), envS3 t bt b len k t g.ver o lo (len - k + (m + 1)) (i + 1) ((g.rows.drop t).take (i + 1)), hp (i + 1), by omega, .same ?_ ?_, i + 1, rfl, by omega, hi', rfl, rfl⟩
    · repeat (first | exact trivial | refine ⟨.inl rfl, ?_⟩ | refine ⟨.inl ev, ?_⟩ | refine ⟨.inl (congrArg (V.int .i64) (wrs i 1 (by omega)).symm), ?_⟩ | refine ⟨.inr rfl, ?_⟩)
    · have e1 : Blk.token 1 (i + 1) = Blk.token 1 ((rowsP ((g.rows.drop t).take i)).length + 1) := by rw [hgl]
      exact congrArg (fun x => [_, _, _, _, _, _, some x]) e1
  · have hi' : i = k := by have := of_decide_eq_false h; omega
    subst hi'
    have hml := midUp_len g.rows t len i (List.replicate g.cols b) hk2 (by omega)
    have hvs : ((((rowsC (A.part ++ B.part)).drop 0).take ((len - i + (m + 1)) * 1)).take (Nat.min (len - i + (m + 1)) len * 1)) = rowsC (midUp g.rows t len i (List.replicate g.cols b)) := by
      have hn : A.part ++ B.part = midUp g.rows t len i (List.replicate g.cols b) := hnow
      have hl : (rowsC (midUp g.rows t len i (List.replicate g.cols b))).length = len := by rw [rowsC_len, hml]
      rw [hn, List.drop_zero, hN, show Nat.min len len = len from Nat.min_self _, Nat.mul_one, List.take_of_length_le (Nat.le_of_eq hl), List.take_of_length_le (Nat.le_of_eq hl)]
    have hml2 : (rowsC (midUp g.rows t len i (List.replicate g.cols b))).length = len := by rw [rowsC_len, hml]
    refine gdP ?_ ?_
    · have hv : Nat.beq g.ver g.ver = true := Nat.beq_refl _
      show ((true && true && Nat.ble (0 + (len - i + (m + 1)) * 1) (rowsC (A.part ++ B.part)).length) && true && Nat.beq g.ver g.ver && (allOne ((((rowsC (A.part ++ B.part)).drop 0).take ((len - i + (m + 1)) * 1)).take (Nat.min (len - i + (m + 1)) len * 1)) && Nat.ble (t + ((((rowsC (A.part ++ B.part)).drop 0).take ((len - i + (m + 1)) * 1)).take (Nat.min (len - i + (m + 1)) len * 1)).length) (rowsC (g.rows ++ g.more)).length)) = true
      have hn : A.part ++ B.part = midUp g.rows t len i (List.replicate g.cols b) := hnow
      rw [hvs, hv, rowsC_one, hml2, rowsC_len (g.rows ++ g.more), List.length_append, hn, hml2, hN, Nat.ble_eq_true_of_le (by omega), Nat.ble_eq_true_of_le (by omega)]
      rfl
    refine hQ _ _ rfl (by show 2 ≤ 7; decide) ⟨.inl ?_, .inl ?_, trivial⟩
    · have e := upRows_len g.rows t len i (List.replicate g.cols b) hk2 (by omega)
      show some (Blk.cells _ (grC 0 { g with rows := upRows g.rows t len i (List.replicate g.cols b) })) = some (Blk.cells _ (grC 0 g))
      unfold grC
      simp only
      rw [e]
    · show some (grR { g with rows := upRows g.rows t len i (List.replicate g.cols b) }) = some (Blk.grow g.ver _ 1 (setL (rowsC (g.rows ++ g.more)) t ((((rowsC (A.part ++ B.part)).drop 0).take ((len - i + (m + 1)) * 1)).take (Nat.min (len - i + (m + 1)) len * 1))))
      rw [hvs, upRows_eq _ _ _ _ _ _ hk2 (by omega)]
      rfl
theorem gScroll (g : Gr) (hg : g.ok) (t bt : Nat) (ht : t ≤ bt) (hb : bt < g.rows.length) (n : Int) (h1 : 1 ≤ n) (b : Cl) (len k : Nat) (hlen : len = bt + 1 - t) (hk : (k : Int) = min n len) :
    Eff Tryz.prog 174 [.ptr 0 0, .int .i64 t, .int .i64 bt, .int .i64 n, Cl.v b, .bool true] (grB g) (grB { g with rows := upRows g.rows t len k (List.replicate g.cols b) }) (.psl 1 (rowsP ((g.rows.drop t).take k)) .any) := by
  have hn2 := hg.n2
  have hc1 := hg.c1
  have hc2 := hg.c2
  have hk1 : 1 ≤ k := by omega
  have hk2 : k ≤ len := by omega
  have hw : IntKind.i64.wrap ((bt : Int) + 1) = ((bt + 1 : Nat) : Int) := wrs bt 1 (by omega)
  refine Eff.of rfl rfl (grB_ok g) (grB_ok _) (Nat.le_refl _) (Sem.gives (Sem.of_Wp tysOk Tryz.func174 rfl rfl ?_))
  refine Wp.seq (Wp.of (md := md0) tysOk ?_)
  conv => whnf
  refine Wp.seq (Wp.of (md := md0) tysOk ?_)
  refine (gIs g t).call [0, 1] 3 rfl rfl (by decide) rfl rfl ?_
  refine BCase.no (by rw [decide_eq_true (by omega)]; rfl) ?_
  repeat (first | refine BCase.yes rfl ?_ | refine BCase.no rfl ?_)
  refine (gIs g bt).call [0, 1] 3 rfl rfl (by decide) rfl rfl ?_
  repeat (first | refine BCase.yes rfl ?_ | refine BCase.no rfl ?_)
  refine BCase.no (by rw [decide_eq_true (by omega)]; rfl) ?_
  repeat (first | refine BCase.yes rfl ?_ | refine BCase.no rfl ?_)
  refine BCase.no (decide_eq_false (by omega)) ?_
  repeat (first | refine BCase.yes rfl ?_ | refine BCase.no rfl ?_)
  refine BCase.no (decide_eq_false (by omega)) ?_
  conv => whnf
  refine Wp.seq (Wp.of (md := md0) tysOk ?_)
  refine gdP (sl_ok (a := (t : Int)) (b := IntKind.i64.wrap ((bt : Int) + 1)) (n := IntKind.i64.wrap ((bt : Int) + 1)) (by omega) (by omega) (Int.le_refl _) (by omega)) ?_
  conv => whnf
  refine Wp.seq (Wp.of (md := md0) tysOk ?_)
  conv => whnf
  refine Wp.seq (Wp.of (md := md0) tysOk ?_)
  conv => whnf
  refine Wp.seq (Wp.of (md := md0) tysOk ?_)
  refine BCase.no rfl ?_
  conv => whnf
  refine Wp.weakT (env' := envS t bt n b len k t g.ver) (h' := hpOf (grB g) ++ [some (.cells 46 (Cl.cs b))]) ?_ (dropH_refl _) ?_
  · have e0 : Nat.beq (IntKind.i64.wrap ((bt : Int) + 1)).toNat (t : Int).toNat = false := by
      rw [hw, Int.toNat_natCast, Int.toNat_natCast]
      cases hq : Nat.beq (bt + 1) t with
      | false => rfl
      | true => have := Nat.eq_of_beq_eq_true hq; omega
    have e1 : V.gsl 1 1 t len len true g.ver = V.gsl 1 1 (bif Nat.beq (IntKind.i64.wrap ((bt : Int) + 1)).toNat (t : Int).toNat then 0 else 0 + (t : Int).toNat * 1) ((IntKind.i64.wrap ((bt : Int) + 1)).toNat - (t : Int).toNat) ((IntKind.i64.wrap ((bt : Int) + 1)).toNat - (t : Int).toNat) true g.ver := by
      rw [e0, hw, Int.toNat_natCast, Int.toNat_natCast, hlen, cond_false, Nat.zero_add, Nat.mul_one]
    have e2 : V.int .i64 (k : Int) = V.int .i64 (if (((IntKind.i64.wrap ((bt : Int) + 1)).toNat - (t : Int).toNat : Nat) : Int) < n then (((IntKind.i64.wrap ((bt : Int) + 1)).toNat - (t : Int).toNat : Nat) : Int) else n) := by
      rw [hw, Int.toNat_natCast, Int.toNat_natCast, ← hlen, hk]
      congr 1
      split <;> omega
    repeat (first | exact trivial | refine ⟨.inl rfl, ?_⟩ | refine ⟨.inl e1, ?_⟩ | refine ⟨.inl e2, ?_⟩ | refine ⟨.inr (.inl rfl), ?_⟩)
  have hrl : ∀ o lo, o + (len - k) ≤ g.rows.length → ((g.rows ++ g.more).drop o).take (len - k) = (g.rows.drop (t + k)).take (len - k) → Wp Tryz.prog TT (tails codeSc 7) (envS2 t bt b len k t g.ver o lo) (hpOf (grB g) ++ [some (.cells 46 (Cl.cs b))]) _ := fun o lo ho hp =>
    scTail g hg t bt ht hb b len k o lo hlen hk1 hk2 ho hp (Q := fun x env' h' => match x with | .exit _ => False | _ => retP TT [.tmp 12] env' h' (Gives fun v' h' => v' = .psl 1 (rowsP ((g.rows.drop t).take k)) .any ∧ 2 ≤ h'.length ∧ dropH (h'.take 2) (hpOf (grB { g with rows := upRows g.rows t len k (List.replicate g.cols b) })))) fun env' h' he hl hd => by
      have e : env'.getD 12 .undef = .psl 1 (rowsP ((g.rows.drop t).take k)) (.own 6) := by rw [List.getD_eq_getElem?_getD, he]; rfl
      show V.force (env'.getD 12 .undef) (fun v => Gives _ v h')
      rw [e]
      exact .inr (.inr ⟨_, forgT_psl, rfl, hl, hd⟩)
  refine Wp.seq (Wp.of (md := md0) tysOk ?_)
  refine DrawP.intro tysOk mixed false ?_
  refine ⟨_, _, _, _, slGsl (l := 0) (m := k) rfl rfl rfl rfl rfl rfl rfl (Int.le_refl _) (by omega) (by omega) (.inr rfl), ?_⟩
  rcases Nat.lt_or_ge k len with hkl | hkl
  · refine ⟨_, _, _, _, slGsl (l := k) (m := len) rfl rfl rfl rfl rfl rfl rfl (by omega) (by omega) (by omega) (.inl (by omega)), ?_⟩
    refine ⟨by kernel_rfl, ?_⟩
    conv => whnf
    refine Wp.weakT (env' := envS2 t bt b len k t g.ver (t + k * 1) (len - k)) (h' := hpOf (grB g) ++ [some (.cells 46 (Cl.cs b))]) ?_ (dropH_refl _) ?_
    · repeat (first | exact trivial | refine ⟨.inl rfl, ?_⟩ | refine ⟨.inr (.inl rfl), ?_⟩)
    refine (?_ : Wp Tryz.prog TT (tails codeSc 7) (envS2 t bt b len k t g.ver (t + k * 1) (len - k)) (hpOf (grB g) ++ [some (.cells 46 (Cl.cs b))]) (fun x env' h' => match x with | .exit _ => False | _ => retP TT [.tmp 12] env' h' (Gives fun v' h' => v' = .psl 1 (rowsP ((g.rows.drop t).take k)) .any ∧ 2 ≤ h'.length ∧ dropH (h'.take 2) (hpOf (grB { g with rows := upRows g.rows t len k (List.replicate g.cols b) })))))
    refine hrl _ _ (by omega) ?_
    · rw [Nat.mul_one, List.drop_append_of_le_length (by omega), List.take_append_of_le_length (by rw [List.length_drop]; omega)]
  · refine ⟨_, _, _, _, slEnd (l := k) (m := len) rfl rfl rfl rfl rfl rfl rfl (by omega) rfl (by omega), ?_⟩
    refine ⟨by kernel_rfl, ?_⟩
    conv => whnf
    have e0 : len - k = 0 := by omega
    have e1 : V.gsl 1 1 t (len - k) 0 true g.ver = .gsl 1 1 t 0 0 true g.ver := by rw [e0]
    refine Wp.weakT (env' := envS2 t bt b len k t g.ver t 0) (h' := hpOf (grB g) ++ [some (.cells 46 (Cl.cs b))]) ?_ (dropH_refl _) ?_
    · repeat (first | exact trivial | refine ⟨.inl rfl, ?_⟩ | refine ⟨.inl e1, ?_⟩ | refine ⟨.inr (.inl rfl), ?_⟩)
    refine (?_ : Wp Tryz.prog TT (tails codeSc 7) (envS2 t bt b len k t g.ver t 0) (hpOf (grB g) ++ [some (.cells 46 (Cl.cs b))]) (fun x env' h' => match x with | .exit _ => False | _ => retP TT [.tmp 12] env' h' (Gives fun v' h' => v' = .psl 1 (rowsP ((g.rows.drop t).take k)) .any ∧ 2 ≤ h'.length ∧ dropH (h'.take 2) (hpOf (grB { g with rows := upRows g.rows t len k (List.replicate g.cols b) })))))
    refine hrl _ _ (by omega) ?_
    rw [e0, List.take_zero, List.take_zero]
theorem gUp (g : Gr) (hg : g.ok) (t bt : Nat) (ht : t ≤ bt) (hb : bt < g.rows.length) (n : Int) (h1 : 1 ≤ n) (b : Cl) (len k : Nat) (hlen : len = bt + 1 - t) (hk : (k : Int) = min n len) :
    Eff Tryz.prog 160 [.ptr 0 0, .int .i64 t, .int .i64 bt, .int .i64 n, Cl.v b] (grB g) (grB { g with rows := upRows g.rows t len k (List.replicate g.cols b) }) (.psl 1 (rowsP ((g.rows.drop t).take k)) .any) := by
  refine Eff.of rfl rfl (grB_ok g) (grB_ok _) (Nat.le_refl _) (Sem.of_body tysOk md0 Tryz.func160 rfl rfl ?_)
  refine (gScroll g hg t bt ht hb n h1 b len k hlen hk).call [0, 1] 3 rfl rfl (by decide) rfl rfl ?_
  exact ⟨rfl, by show 2 ≤ 3; decide, .inl rfl, .inl rfl, trivial⟩
end Go.Cx
namespace Go.Cx
open Go.Proofs Go.Row
set_option maxRecDepth 100000
set_option maxHeartbeats 8000000
/-! ### Rings -/
structure Rg where
  lines : List (List Cl)
  first : Nat
  most : Nat
  lab : Int
  ver : Nat
  ge : TypeId
  gs : Nat
  gh : List V
def Rg.ls (r : Rg) (b : Nat) : V := match r.lines with | [] => .nils | x :: l => .gsl (b + 1) 1 0 (l.length + 1) (l.length + 1) false r.ver
def rgC (b : Nat) (r : Rg) : List V := [r.ls b, .int .i64 r.first, .int .i64 r.most, .int .u8 r.lab]
def Rg.gE (r : Rg) : TypeId := match r.lines with | [] => r.ge | _ :: _ => 75
def Rg.gS (r : Rg) : Nat := match r.lines with | [] => r.gs | _ :: _ => 1
def Rg.gC (r : Rg) : List V := match r.lines with | [] => r.gh | x :: l => rowsC (x :: l)
def rgL (r : Rg) : Blk := .grow r.ver r.gE r.gS r.gC
def rgB (r : Rg) : List Blk := [.cells 110 (rgC 0 r), rgL r]
structure Rg.ok (r : Rg) : Prop where
  gh : r.gh.all V.free1 = true
  most : r.most ≤ 1000
  len : r.lines.length ≤ r.most
  first : r.first < r.lines.length ∨ r.first = 0
theorem rgB_ok (r : Rg) (h : r.ok) : (rgB r).all (Blk.okB 2) = true := by
  unfold rgB rgL rgC Rg.ls Rg.gE Rg.gS Rg.gC
  have hg := h.gh
  cases hl : r.lines with
  | nil => show (true && (r.gh.all V.free1 && true)) = true; rw [hg]; rfl
  | cons x l => show (true && ((rowsC (x :: l)).all V.free1 && true)) = true; rw [rowsC_free]; rfl
def push1 (r : Rg) (x : List Cl) : Rg :=
  if r.lines.length < r.most then { r with lines := r.lines ++ [x], ver := match r.lines with | [] => r.ver + 1 + 0 | _ => r.ver + 1 }
  else { r with lines := r.lines.set r.first x, first := (r.first + 1) % r.most }
theorem push1_ok (r : Rg) (h : r.ok) (x : List Cl) (h0 : 0 < r.most) : (push1 r x).ok := by
  unfold push1
  split
  · refine ⟨h.gh, h.most, by simp; omega, ?_⟩
    rcases h.first with h1 | h1
    · left; simp; omega
    · left; simp; omega
  · refine ⟨h.gh, h.most, by simp; exact h.len, ?_⟩
    left
    have := h.len
    have := Nat.mod_lt (r.first + 1) h0
    simp; omega
def mdR : Nat → Bool := fun i => i == 6
theorem rgPush (r : Rg) (h : r.ok) (x : List Cl) (hx : x ≠ []) (hx2 : x.length < 1000000) : Eff Tryz.prog 161 [.ptr 0 0, .psl 1 [[rowV x]] .any] (rgB r) (rgB (if r.most = 0 then r else push1 r x)) (.tup []) := by
  have hok : (if r.most = 0 then r else push1 r x).ok := by
    split
    · exact h
    · exact push1_ok r h x (by omega)
  refine Eff.of rfl rfl (rgB_ok r h) (rgB_ok _ hok) (Nat.le_refl _) (Sem.move ?_)
  have hm := h.most
  have hlen := h.len
  obtain ⟨lines, first, most, lab, ver, ge, gs, gh⟩ := r
  simp only at hm hlen
  cases lines with
  | nil =>
    refine Sem.of_body tysOk mdR Tryz.func161 rfl rfl ?_
    repeat (first | refine BCase.yes rfl ?_ | refine BCase.no rfl ?_)
    refine ⟨fun h1 => ?_, fun h1 => ?_⟩
    · have h1 : ((most : Int) == 0) = true := h1
      have h1 : most = 0 := by have := beq_iff_eq.1 h1; omega
      subst h1
      exact .inl ⟨rfl, Nat.le_refl _, .inl rfl, .inl rfl, trivial⟩
    · have h1 : ((most : Int) == 0) = false := h1
      have h1 : ¬ most = 0 := fun e => by subst e; cases h1
      simp only [if_neg h1]
      have hp : push1 ⟨[], first, most, lab, ver, ge, gs, gh⟩ x = ⟨[x], first, most, lab, ver + 1 + 0, ge, gs, gh⟩ := by
        unfold push1; rw [if_pos (by show 0 < most; omega)]; rfl
      rw [hp]
      refine LoopP.unroll (md := mdR) ?_
      refine BCase.yes rfl ?_
      refine ⟨[rowV x], ⟨by decide, rfl⟩, gdP rfl ?_⟩
      refine (rClone x hx hx2).sem _ ?_
      refine DrawP.intro tysOk mixed false ?_
      refine ⟨by kernel_rfl, ?_⟩
      refine BCase.yes (decide_eq_true (by omega)) ?_
      refine LoopP.unroll (md := mdR) ?_
      refine BCase.no rfl ?_
      refine .inr ⟨1, 3, 0, ver, ver, 0, 1, 0 + 1, 0 + 1, false, 75, ge, ge, 110, gs, gs, gh, gh, [rowV x], [], [.int .i64 first, .int .i64 most, .int .u8 lab], rfl, rfl, by show 2 ≤ 3; decide, by decide, by decide, by decide, rfl, rfl, rfl, rfl, rfl, rfl, fun k bk hk1 hk2 hk => ?_, rfl, by show 2 ≤ 4; decide, .inl rfl, .inl rfl, trivial⟩
      match k, hk with
      | 1, hk =>
        obtain rfl := Option.some.inj (show some _ = some bk from hk)
        show gh.all (V.refs _) = true
        rw [List.all_eq_true]; exact fun z hz => free1_refs' (List.all_eq_true.1 h.gh z hz)
      | 2, hk => obtain rfl := Option.some.inj (show some _ = some bk from hk); rfl
      | 0, hk => exact absurd rfl hk2
      | 3, hk => exact absurd rfl hk1
      | k + 4, hk => simp [hget] at hk
  | cons y l =>
    have hlen : l.length + 1 ≤ most := hlen
    have h1 : ¬ most = 0 := by omega
    refine Sem.of_body tysOk mdR Tryz.func161 rfl rfl ?_
    repeat (first | refine BCase.yes rfl ?_ | refine BCase.no rfl ?_)
    refine BCase.no (by show ((most : Int) == 0) = false; rw [beq_eq_false_iff_ne]; omega) ?_
    simp only [if_neg h1]
    refine LoopP.unroll (md := mdR) ?_
    refine BCase.yes rfl ?_
    refine ⟨[rowV x], ⟨by decide, rfl⟩, gdP rfl ?_⟩
    refine (rClone x hx hx2).sem _ ?_
    refine DrawP.intro tysOk mixed false ?_
    refine ⟨by kernel_rfl, ?_⟩
    refine ⟨fun h2 => ?_, fun h2 => ?_⟩
    · have h2 : decide (((l.length + 1 : Nat) : Int) < (most : Int)) = true := h2
      have h2 : l.length + 1 < most := by have := of_decide_eq_true h2; omega
      have hp : push1 ⟨y :: l, first, most, lab, ver, ge, gs, gh⟩ x = ⟨y :: (l ++ [x]), first, most, lab, ver + 1, ge, gs, gh⟩ := by
        unfold push1; rw [if_pos (by show l.length + 1 < most; omega)]; rfl
      rw [hp]
      refine ⟨_, _, _, _, apGrow (x := .lsl 2 1 0 1 1) (el := ⟨true, 1, [rowV x], [2]⟩) (cs := rowsC (y :: l)) rfl rfl rfl rfl rfl rfl rfl rfl rfl (Nat.succ_ne_zero 0) rfl (by show l.length + 1 < l.length + 1 + 1; omega) rfl ?_ rfl rfl ?_ (fun _ _ e => by cases e), ?_⟩
      · show (l.length + 1) * 1 = _
        rw [rowsC_len, Nat.mul_one]; rfl
      · show (true && true && Nat.ble ((l.length + 1 + 1) * 48) 281474976710656) = true
        rw [Nat.ble_eq_true_of_le (by omega)]; rfl
      refine LoopP.unroll (md := mdR) ?_
      refine BCase.no rfl ?_
      refine .inl ⟨rfl, by show 2 ≤ 3; decide, .inl ?_, .inl ?_, trivial⟩
      · show some (Blk.cells _ [.gsl 1 1 0 ((l ++ [x]).length + 1) ((l ++ [x]).length + 1) false (ver + 1), .int .i64 first, .int .i64 most, .int .u8 lab]) = some (Blk.cells _ [.gsl 1 1 0 (l.length + 1 + 1) (l.length + 1 + 1) false (ver + 1), .int .i64 first, .int .i64 most, .int .u8 lab])
        rw [List.length_append]; rfl
      · show some (Blk.grow (ver + 1) _ 1 (rowsC (y :: (l ++ [x])))) = some (Blk.grow (ver + 1) _ 1 (rowsC (y :: l) ++ [rowV x]))
        have : rowsC (y :: (l ++ [x])) = rowsC (y :: l) ++ [rowV x] := by simp [rowsC]
        rw [this]
        rfl
    · have h2 : decide (((l.length + 1 : Nat) : Int) < (most : Int)) = false := h2
      have h2 : ¬ l.length + 1 < most := by have := of_decide_eq_false h2; omega
      have hfirst : first < l.length + 1 := by
        rcases h.first with h3 | h3
        · exact h3
        · have h3 : first = 0 := h3
          omega
      have hp : push1 ⟨y :: l, first, most, lab, ver, ge, gs, gh⟩ x = ⟨(y :: l).set first x, (first + 1) % most, most, lab, ver, ge, gs, gh⟩ := by
        unfold push1; rw [if_neg (by show ¬ l.length + 1 < most; omega)]
      rw [hp]
      have hsl : ((y :: l).set first x).length = l.length + 1 := by simp
      obtain ⟨y', l', hs⟩ : ∃ y' l', (y :: l).set first x = y' :: l' := by
        cases hq : (y :: l).set first x with
        | nil => rw [hq] at hsl; simp at hsl
        | cons a b => exact ⟨a, b, rfl⟩
      have hl' : l'.length = l.length := by rw [hs] at hsl; simpa using hsl
      rw [hs]
      refine DrawP.intro tysOk mixed false ?_
      refine gdP (by rw [Bool.and_eq_true]; exact ⟨decide_eq_true (by omega), decide_eq_true (by omega)⟩) ?_
      have hq : 0 + (first : Int).toNat * 1 = first := by rw [Int.toNat_natCast]; omega
      refine gdP ?_ ?_
      · have hv : Nat.beq ver ver = true := Nat.beq_refl _
        show (Nat.beq ver ver && (true && Nat.ble (0 + (first : Int).toNat * 1 + 1) (rowsC (y :: l)).length)) = true
        rw [hq, hv, rowsC_len, List.length_cons, Nat.ble_eq_true_of_le (by omega)]; rfl
      refine ⟨by kernel_rfl, ?_⟩
      refine DrawP.intro tysOk mixed false ?_
      refine gdP (decide_eq_true (by omega)) ?_
      refine ⟨by kernel_rfl, ?_⟩
      refine LoopP.unroll (md := mdR) ?_
      refine BCase.no rfl ?_
      refine .inl ⟨rfl, by show 2 ≤ 2; decide, .inl ?_, .inl ?_, trivial⟩
      · have hw : (IntKind.i64.wrap ((first : Int) + 1)).tmod most = (((first + 1) % most : Nat) : Int) := by
          rw [wri (by omega) (by omega), Int.tmod_eq_emod_of_nonneg (by omega)]; rfl
        show some (Blk.cells _ [.gsl 1 1 0 (l'.length + 1) (l'.length + 1) false ver, .int .i64 ((first + 1) % most : Nat), .int .i64 most, .int .u8 lab]) = some (Blk.cells _ [.gsl 1 1 0 (l.length + 1) (l.length + 1) false ver, .int .i64 ((IntKind.i64.wrap ((first : Int) + 1)).tmod most), .int .i64 most, .int .u8 lab])
        rw [hl', hw]
      · show some (Blk.grow ver _ 1 (rowsC (y' :: l'))) = some (Blk.grow ver _ 1 (setL (rowsC (y :: l)) (0 + (first : Int).toNat * 1) [rowV x]))
        rw [hq, rowsC_set (by simp; omega), hs]
        rfl
end Go.Cx
