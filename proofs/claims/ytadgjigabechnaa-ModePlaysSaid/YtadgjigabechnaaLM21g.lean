/- What functions of this seat compute, each for every argument of the shapes that are named; no condition beside the stated ones. -/
import Derived.Test.YtadgjigabechnaaLM19g
namespace Go.Cx
open Go.Proofs Go.RowKit
set_option maxRecDepth 100000
set_option maxHeartbeats 8000000
theorem mem_allOf (m : BitVec 16) {e : Bool × Int × Nat} (he : e ∈ keyT) : (mdE e ∈ allOf m) ↔ m.getLsbD e.2.2 = true := by
  constructor
  · intro h
    obtain ⟨k, h1, h2⟩ := mem_all h
    rw [show kOf (mdE e) = some e.2.2 from key_k he] at h1
    simp only [Option.some.injEq] at h1
    rw [h1]; exact h2
  · intro h
    exact List.mem_map.2 ⟨e, List.mem_filter.2 ⟨he, h⟩, rfl⟩
theorem meant_k {e : Bool × Int × Nat} (he : e ∈ keyT) {x : Md} {k : Nat} (hx : kOf x = some k) : meant (mdE e) x = decide (e.2.2 = k) := by
  rcases kOf_cases x with g | ⟨f, hf, gx, g⟩
  · rw [hx] at g; cases g
  · rw [hx] at g
    simp only [Option.some.injEq] at g
    rw [gx, g]
    have key : ∀ a ∈ keyT, ∀ b ∈ keyT, meant (mdE a) (mdE b) = decide (a.2.2 = b.2.2) := by decide
    exact key e he f hf
theorem one_all (on : Bool) (m : BitVec 16) (x : Md) {k : Nat} (hx : kOf x = some k) : oneL on (allOf m) x = allOf (putB on m (bOf x)) := by
  have hk := kOf_lt hx
  have hb : bOf x = BitVec.twoPow 16 k := by unfold bOf; rw [hx]
  unfold oneL everyL
  rw [List.filter_map]
  unfold allOf
  show ((keyT.filter _).map mdE) = (keyT.filter _).map mdE
  congr 1
  apply List.filter_congr
  intro e he
  show keep on (allOf m) x (mdE e) = _
  unfold keep
  have hmem : decide (mdE e ∈ allOf m) = m.getLsbD e.2.2 := by
    rw [Bool.eq_iff_iff, decide_eq_true_iff]; exact mem_allOf m he
  rw [meant_k he hx, hmem, hb, putB_bit on m (by omega) _ (by have := key_lt he; omega)]
  by_cases h : e.2.2 = k
  · simp [h]
  · simp [h]
theorem put1_fn (on : Bool) (m : BitVec 16) (x : Md) (k : Nat) (hx : kOf x = some k) : Fn Try.prog 38 [rV (allOf m), .bool on, x.v] (rV (allOf (putB on m (bOf x)))) := by
  have := one_fn (allOf m) (by have := all_len m; omega) on x
  rw [one_all on m x hx] at this
  exact this
/-! ### New, Soft, State -/
theorem one_arg (on : Bool) (x : Md) {v : V} (k : Fn Try.prog 38 [rV [], .bool on, x.v] v) : Fn Try.prog 38 [.agg [.nils], .bool on, x.v] v :=
  ⟨rfl, k.vfree, Sem.argR (args' := [rV [], .bool on, x.v]) rfl (fun φ μ j c h => by
    match j with
    | 0 => exact agg1 (.inr (.inr (.inr ⟨rfl, 2, rfl⟩))) h
    | 1 => exact h
    | 2 => exact h
    | j + 3 => exact h) k.run⟩
theorem putB_lit (on : Bool) (m : BitVec 16) (x : Md) (k : Nat) (r : BitVec 16) (hx : kOf x = some k) (h : putB on m (bOf x) = r) : Fn Try.prog 38 [rV (allOf m), .bool on, x.v] (rV (allOf r)) := by
  have := put1_fn on m x k hx
  rw [h] at this
  exact this
theorem rnew_fn : Fn Try.prog 20 [] (rV (allOf 96#16)) := by
  refine Fn.of_body tysOk md0 Try.func20 rfl rfl rfl rfl ?_
  have h1 := putB_lit true 0#16 (pr 7) 5 32#16 (by decide) (by decide)
  rw [show allOf 0#16 = [] by decide] at h1
  refine (one_arg true (pr 7) h1).sem _ ?_
  refine (putB_lit true 32#16 (pr 25) 6 96#16 (by decide) (by decide)).sem _ ?_
  rfl
theorem soft_put (m : BitVec 16) : putB true (putB true (putB false (putB false m (bOf (an 4))) (bOf (pr 6))) (bOf (pr 7))) (bOf (pr 25)) = softOf m := by
  have e1 : bOf (an 4) = BitVec.twoPow 16 0 := by decide
  have e2 : bOf (pr 6) = BitVec.twoPow 16 4 := by decide
  have e3 : bOf (pr 7) = BitVec.twoPow 16 5 := by decide
  have e4 : bOf (pr 25) = BitVec.twoPow 16 6 := by decide
  rw [e1, e2, e3, e4]
  apply BitVec.eq_of_getLsbD_eq
  intro j hj
  rw [soft_bit m j hj, putB_bit true _ (by omega) j hj, putB_bit true _ (by omega) j hj, putB_bit false _ (by omega) j hj, putB_bit false _ (by omega) j hj]
  by_cases h6 : j = 6
  · simp [h6]
  by_cases h5 : j = 5
  · simp [h5]
  by_cases h4 : j = 4
  · simp [h4]
  by_cases h0 : j = 0
  · simp [h0]
  simp [h6, h5, h4, h0]
theorem rsoft_fn (m : BitVec 16) : Fn Try.prog 22 [rV (allOf m)] (rV (allOf (softOf m))) := by
  refine Fn.of_body tysOk md0 Try.func22 rfl rfl rfl rfl ?_
  refine (put1_fn false m (an 4) 0 (by decide)).sem _ ?_
  refine (put1_fn false _ (pr 6) 4 (by decide)).sem _ ?_
  refine (put1_fn true _ (pr 7) 5 (by decide)).sem _ ?_
  refine (put1_fn true _ (pr 25) 6 (by decide)).sem _ ?_
  rw [soft_put]
  rfl
theorem mem_state (m : BitVec 16) (x : Md) (hk : known x = true) : decide (x ∈ allOf m) = isOf m x := by
  have hx := (mem_every x).2 hk
  obtain ⟨e, he, rfl⟩ := List.mem_map.1 hx
  have h1 : kOf (mdE e) = some e.2.2 := key_k he
  unfold isOf
  rw [state_bit, h1, Bool.eq_iff_iff, decide_eq_true_iff, mem_allOf m he]
  show _ ↔ ((if m.getLsbD e.2.2 = true then (1 : Int) else 2) == 1) = true
  cases m.getLsbD e.2.2 <;> simp
theorem mem_unknown (m : BitVec 16) (x : Md) (hk : known x = false) : decide (x ∈ allOf m) = false ∧ isOf m x = false := by
  constructor
  · apply decide_eq_false
    intro h
    rw [known_all h] at hk; cases hk
  · unfold isOf stateOf
    rw [hk]; rfl
theorem mem_is (m : BitVec 16) (x : Md) : decide (x ∈ allOf m) = isOf m x := by
  cases hk : known x with
  | true => exact mem_state m x hk
  | false => rw [(mem_unknown m x hk).1, (mem_unknown m x hk).2]
theorem risA_fn (m : BitVec 16) (x : Md) : Fn Try.prog 28 [rV (allOf m), x.v] (.bool (isOf m x)) := by
  have := ris_fn (allOf m) (by have := all_len m; omega) x
  rw [mem_is] at this
  exact this
theorem rstate_fn (m : BitVec 16) (x : Md) : Fn Try.prog 29 [rV (allOf m), x.v] (.int .i64 (stateOf m x)) := by
  obtain ⟨r, hr⟩ : ∃ r, r = stateOf m x := ⟨_, rfl⟩
  rw [← hr]
  refine Fn.of_body tysOk md0 Try.func29 rfl rfl rfl rfl ?_
  refine (rknown_fn x).sem _ ?_
  refine ⟨fun h => ?_, fun h => ?_⟩
  · have hk : known x = false := by simpa using h
    have : r = 0 := by rw [hr]; unfold stateOf; rw [hk]; rfl
    subst this
    rfl
  · have hk : known x = true := by simpa using h
    refine (risA_fn m x).sem _ ?_
    refine ⟨fun h2 => ?_, fun h2 => ?_⟩
    · have : r = 1 := by rw [hr]; unfold isOf at h2; simpa using h2
      subst this
      rfl
    · have : r = 2 := by
        have h3 : stateOf m x ≠ 1 := by unfold isOf at h2; simpa using h2
        rw [hr]
        unfold stateOf at h3 ⊢
        rw [hk] at h3 ⊢
        simp only [if_true] at h3 ⊢
        split
        · rfl
        · rename_i h4; rw [if_neg h4] at h3; exact absurd rfl h3
      subst this
      rfl
/-! ### modes, Put, alike -/
def outM (i : Nat) (l : List Md) : V := match i with | 0 => .nils | _ => .psl 2 (mdsV (l.take i)) (.own 0)
def hpM (i : Nat) : Heap := match i with | 0 => [] | _ => [some (.token 2 i)]
def envM (l : List Md) (i : Nat) : List V := .psl 2 (mdsV l) .any :: .undef :: .nils :: outM i l :: .int .i64 (i : Nat) :: List.replicate 14 .undef
theorem modes_fn (l : List Md) (hl : l.length < 1000000) : Fn Try.prog 24 [.psl 2 (mdsV l) .any] (.psl 2 (mdsV l) .any) := by
  refine ⟨rfl, rfl, Sem.res (Sem.of_body tysOk md0 Try.func24 rfl rfl ?_)⟩
  have hll := mdsV_len l
  refine LoopP.inv (md := md0) (fun k env h => ∃ (i : Nat), k = l.length - i ∧ i ≤ l.length ∧ env = envM l i ∧ h = hpM i) l.length ⟨envM l 0, _, .same (by repeat (first | exact trivial | refine ⟨.inl rfl, ?_⟩ | refine ⟨.inr rfl, ?_⟩)) rfl, 0, rfl, Nat.zero_le _, rfl, rfl⟩ ?_
  rintro k _ _ ⟨i, rfl, hil, rfl, rfl⟩
  cases i with
  | zero =>
    refine ⟨fun h => ?_, fun h => ?_⟩
    · have hl0 : 0 < l.length := by have := of_decide_eq_true h; omega
      obtain ⟨x, hx⟩ : ∃ x, l[0]? = some x := ⟨_, List.getElem?_eq_getElem hl0⟩
      refine ⟨mdC x, ⟨by omega, mdsV_get hx⟩, ?_⟩
      have ht : l.take 1 = [x] := by rw [List.take_add_one, hx]; rfl
      repeat (first | refine BCase.yes rfl ?_ | refine BCase.no rfl ?_)
      refine ⟨l.length - 1, envM l 1, hpM 1, by omega, .same ?_ rfl, 1, rfl, hl0, rfl, rfl⟩
      refine ⟨.inl rfl, .inl rfl, .inl rfl, .inl ?_, .inl rfl, ?_⟩
      · show V.psl 2 (mdsV (l.take 1)) (.own 0) = _
        rw [ht]; rfl
      · repeat (first | exact trivial | refine ⟨.inl rfl, ?_⟩ | refine ⟨.inr rfl, ?_⟩)
    · have hl0 : l.length ≤ 0 := by have := of_decide_eq_false h; omega
      have : l = [] := List.length_eq_zero_iff.1 (by omega)
      subst this
      exact ⟨_, .inr (.inr (.inr ⟨rfl, 2, rfl⟩)), rfl⟩
  | succ i =>
    have hlen : (mdsV (l.take (i + 1))).length = i + 1 := by rw [mdsV_len, List.length_take]; omega
    refine ⟨fun h => ?_, fun h => ?_⟩
    · have hl1 : i + 1 < l.length := by have := of_decide_eq_true h; omega
      obtain ⟨x, hx⟩ : ∃ x, l[i + 1]? = some x := ⟨_, List.getElem?_eq_getElem hl1⟩
      refine ⟨mdC x, ⟨by omega, mdsV_get hx⟩, ?_⟩
      have ht : l.take (i + 2) = l.take (i + 1) ++ [x] := by rw [List.take_add_one (i := i + 1), hx]; rfl
      refine gdP rfl ?_
      refine gdP ?_ ?_
      · show (Nat.beq 2 2 && Nat.beq 2 2 && Nat.beq (i + 1) (mdsV (l.take (i + 1))).length && (Nat.blt 0 2 && Nat.blt 0 16 && Nat.ble (((mdsV (l.take (i + 1))).length + 1) * (2 * 16)) 281474976710656)) = true
        rw [hlen]
        simp only [Bool.and_eq_true]
        exact ⟨⟨⟨rfl, rfl⟩, Nat.beq_refl _⟩, ⟨rfl, rfl⟩, Nat.ble_eq_true_of_le (by omega)⟩
      refine ⟨l.length - (i + 2), envM l (i + 2), hpM (i + 2), by omega, .same ?_ ?_, i + 2, rfl, hl1, rfl, rfl⟩
      · refine ⟨.inl rfl, .inl rfl, .inl rfl, .inl ?_, .inl ?_, ?_⟩
        · show V.psl 2 (mdsV (l.take (i + 2))) (.own 0) = _
          rw [ht]
          exact congrArg (fun z => V.psl 2 z (.own 0)) (by simp [mdsV]; rfl)
        · exact congrArg (V.int .i64) (wrs (i + 1) 1 (by omega))
        · repeat (first | exact trivial | refine ⟨.inl rfl, ?_⟩ | refine ⟨.inr rfl, ?_⟩)
      · exact congrArg (fun n => [some (Blk.token 2 n)]) (show i + 2 = (mdsV (l.take (i + 1))).length + 1 by rw [hlen])
    · have hl1 : l.length ≤ i + 1 := by have := of_decide_eq_false h; omega
      refine ⟨_, .inr (.inr (.inl ⟨_, _, _, rfl, rfl⟩)), ?_⟩
      show V.psl 2 (mdsV (l.take (i + 1))) .any = _
      rw [List.take_of_length_le (by omega)]
def envRP (m0 : BitVec 16) (on : Bool) (l : List Md) (k i : Int) : List V := rV (allOf m0) :: .bool on :: .psl 2 (mdsV l) .any :: .ptr 0 0 :: .undef :: .undef :: .ptr 1 0 :: .int .i64 0 :: .int .i64 k :: .int .i64 i :: List.replicate 22 .undef
def hpRP (w : BitVec 16) : Heap := [rB (allOf w), some (.cells 44 [.nils])]
theorem rput_fn (on : Bool) (m : BitVec 16) (l : List Md) (hl : l.length < 1000000) : Fn Try.prog 23 [rV (allOf m), .bool on, .psl 2 (mdsV l) .any] (.tup [rV (allOf (putOf on m l).1), .int .i64 ((putOf on m l).2 : Nat)]) := by
  have hlen := mdsV_len l
  refine Fn.of_body tysOk md0 Try.func23 rfl rfl rfl rfl ?_
  refine LoopP.inv (md := md0) (fun k env h => ∃ (i q : Nat) (w : BitVec 16), k = l.length - i ∧ i ≤ l.length ∧ q ≤ i ∧ (l.drop i).foldl (putS on) (w, q) = putOf on m l ∧ env = envRP m on l q i ∧ h = hpRP w) l.length ⟨envRP m on l 0 0, _, .same (by repeat (first | exact trivial | refine ⟨.inl rfl, ?_⟩ | refine ⟨.inr rfl, ?_⟩)) rfl, 0, 0, m, rfl, Nat.zero_le _, Nat.le_refl _, rfl, rfl, rfl⟩ ?_
  rintro k _ _ ⟨i, q, w, rfl, hi, hq, hf, rfl, rfl⟩
  refine ⟨fun h => ?_, fun h => ?_⟩
  · have hi' : i < l.length := by have := of_decide_eq_true h; omega
    obtain ⟨x, hx⟩ : ∃ x, l[i]? = some x := ⟨_, List.getElem?_eq_getElem hi'⟩
    rw [drop_fold _ _ _ _ hx] at hf
    refine ⟨mdC x, ⟨by omega, mdsV_get hx⟩, ?_⟩
    refine (rknown_fn x).sem _ ?_
    refine ⟨fun hk => ?_, fun hk => ?_⟩
    · obtain ⟨kk, hkk⟩ : ∃ kk, kOf x = some kk := by unfold known at hk; exact Option.isSome_iff_exists.1 hk
      have hst : putS on (w, q) x = (putB on w (bOf x), q + 1) := by unfold putS; rw [if_pos hk]
      rw [hst] at hf
      refine DrawP.intro tysOk mixed false ?_
      refine ⟨mdC x, ⟨by omega, mdsV_get hx⟩, ?_⟩
      refine ⟨_, (put1_fn on w x kk hkk).callT _ _, ?_⟩
      refine ⟨by kernel_rfl, ?_⟩
      refine ⟨l.length - (i + 1), envRP m on l (q + 1 : Nat) (i + 1 : Nat), hpRP (putB on w (bOf x)), by omega, .same ?_ rfl, i + 1, q + 1, _, rfl, hi', by omega, hf, rfl, rfl⟩
      refine ⟨.inl rfl, .inl rfl, .inl rfl, .inl rfl, .inl rfl, .inl rfl, .inl rfl, .inl rfl, .inl ?_, .inl ?_, ?_⟩
      · exact congrArg (V.int .i64) (wrs q 1 (by omega))
      · exact congrArg (V.int .i64) (wrs i 1 (by omega))
      · repeat (first | exact trivial | refine ⟨.inl rfl, ?_⟩ | refine ⟨.inr rfl, ?_⟩)
    · have hst : putS on (w, q) x = (w, q) := by unfold putS; rw [if_neg (by rw [hk]; simp)]
      rw [hst] at hf
      refine ⟨l.length - (i + 1), envRP m on l q (i + 1 : Nat), hpRP w, by omega, .same ?_ rfl, i + 1, q, w, rfl, hi', by omega, hf, rfl, rfl⟩
      refine ⟨.inl rfl, .inl rfl, .inl rfl, .inl rfl, .inl rfl, .inl rfl, .inl rfl, .inl rfl, .inl rfl, .inl ?_, ?_⟩
      · exact congrArg (V.int .i64) (wrs i 1 (by omega))
      · repeat (first | exact trivial | refine ⟨.inl rfl, ?_⟩ | refine ⟨.inr rfl, ?_⟩)
  · have hi' : i = l.length := by have := of_decide_eq_false h; omega
    subst hi'
    rw [List.drop_length] at hf
    have hf' : (w, q) = putOf on m l := hf
    rw [← hf']
    rfl
def envAl (m : BitVec 16) (i : Int) : List V := wV m.toNat :: rV (allOf m) :: .ptr 0 0 :: .ptr 1 0 :: .bool false :: .psl 2 (mdsV (allOf m)) .any :: .int .i64 i :: List.replicate 25 .undef
theorem alike_fn (m : BitVec 16) (hg : goodM m) : Fn Try.prog 30 [wV m.toNat, rV (allOf m)] (.bool true) := by
  have hL := all_len m
  have hml := mdsV_len (allOf m)
  refine Fn.of_body tysOk md0 Try.func30 rfl rfl rfl rfl ?_
  refine (all_fn m hg).sem _ ?_
  refine (modes_fn (allOf m) (by omega)).sem _ ?_
  refine BCase.no (by simp) ?_
  refine LoopP.inv (md := md0) (fun k env h => ∃ (i : Nat), k = (allOf m).length - i ∧ i ≤ (allOf m).length ∧ env = envAl m i ∧ h = [wB m.toNat, rB (allOf m)]) (allOf m).length ⟨envAl m 0, _, .same (by repeat (first | exact trivial | refine ⟨.inl rfl, ?_⟩ | refine ⟨.inr rfl, ?_⟩)) rfl, 0, rfl, Nat.zero_le _, rfl, rfl⟩ ?_
  rintro k _ _ ⟨i, rfl, hi, rfl, rfl⟩
  refine ⟨fun h => ?_, fun h => ?_⟩
  · have hi' : i < (allOf m).length := by have := of_decide_eq_true h; omega
    obtain ⟨c, hc⟩ : ∃ c, (allOf m)[i]? = some c := ⟨_, List.getElem?_eq_getElem hi'⟩
    refine DrawP.intro tysOk mixed false ?_
    refine ⟨mdC c, ⟨by omega, mdsV_get hc⟩, ?_⟩
    refine ⟨mdC c, ⟨by omega, mdsV_get hc⟩, ?_⟩
    refine ⟨by kernel_rfl, ?_⟩
    refine BCase.no (by simp) ?_
    refine ⟨(allOf m).length - (i + 1), envAl m (i + 1 : Nat), [wB m.toNat, rB (allOf m)], by omega, .same ?_ rfl, i + 1, rfl, hi', rfl, rfl⟩
    refine ⟨.inl rfl, .inl rfl, .inl rfl, .inl rfl, .inl rfl, .inl rfl, .inl ?_, ?_⟩
    · exact congrArg (V.int .i64) (wrs i 1 (by omega))
    · repeat (first | exact trivial | refine ⟨.inl rfl, ?_⟩ | refine ⟨.inr rfl, ?_⟩)
  · rfl
end Go.Cx
namespace Go.Cx
open Go.Proofs Go.RowKit
set_option maxRecDepth 100000
set_option maxHeartbeats 8000000
def outQ (r : List Md) : V := match r with | [] => .nils | a :: r => .psl 2 (mdsV (a :: r)) (.own 3)
def hpQ (x : Md) (m : BitVec 16) (r : List Md) : Heap := match r with
  | [] => [mB2 24 x, wB m.toNat, rB (allOf m)]
  | _ :: r => [mB2 24 x, wB m.toNat, rB (allOf m), some (.token 2 (r.length + 1))]
def envQr (l r : List Md) (i : Nat) : List V := .psl 2 (mdsV l) .any :: .undef :: .nils :: outQ r :: .int .i64 (i : Nat) :: List.replicate 19 .undef
theorem row_sem (x : Md) (m : BitVec 16) (l : List Md) : Go.Cx.Sem Try.prog 21 [.psl 2 (mdsV l) .any] [mB2 24 x, wB m.toNat, rB (allOf m)] fun v h' => v = outQ (rowOf l) ∧ h' = hpQ x m (rowOf l) := by
  refine Sem.of_body tysOk md0 Try.func21 rfl rfl ?_
  have hll := mdsV_len l
  refine LoopP.inv (md := md0) (fun k env h => ∃ (i : Nat), k = 20 - i ∧ i ≤ l.length ∧ i ≤ 20 ∧ env = envQr l ((l.take i).map nearOf) i ∧ h = hpQ x m ((l.take i).map nearOf)) 20 ⟨envQr l [] 0, _, .same (by repeat (first | exact trivial | refine ⟨.inl rfl, ?_⟩ | refine ⟨.inr rfl, ?_⟩)) rfl, 0, rfl, Nat.zero_le _, Nat.zero_le _, rfl, rfl⟩ ?_
  rintro k _ _ ⟨i, rfl, hil, hi20, rfl, rfl⟩
  have done : (20 ≤ i ∨ l.length ≤ i) → rowOf l = (l.take i).map nearOf := fun h => by
    unfold rowOf
    rcases h with h | h
    · rw [show i = 20 by omega]
    · rw [List.take_of_length_le (by omega), List.take_of_length_le (by omega)]
  cases hr : (l.take i).map nearOf with
  | nil =>
    have hi0 : i = 0 ∨ l.length = 0 := by
      have := congrArg List.length hr
      rw [List.length_map, List.length_take, List.length_nil] at this
      omega
    refine ⟨fun h => ?_, fun h => ?_⟩
    · have hi' : i < l.length := by have := of_decide_eq_true h; omega
      have hi0' : i = 0 := by omega
      subst hi0'
      repeat (first | refine BCase.yes rfl ?_ | refine BCase.no rfl ?_)
      obtain ⟨c, hc⟩ : ∃ c, l[0]? = some c := ⟨_, List.getElem?_eq_getElem hi'⟩
      refine ⟨mdC c, ⟨by omega, mdsV_get hc⟩, ?_⟩
      refine (near_fn c).sem _ ?_
      have ht := take_snoc hc
      refine ⟨19, envQr l ((l.take 1).map nearOf) 1, hpQ x m ((l.take 1).map nearOf), by omega, .same ?_ ?_, 1, rfl, hi', by omega, rfl, rfl⟩
      · refine ⟨.inl rfl, .inl rfl, .inl rfl, .inl ?_, .inl rfl, ?_⟩
        · show outQ ((l.take 1).map nearOf) = _
          rw [ht]; rfl
        · repeat (first | exact trivial | refine ⟨.inl rfl, ?_⟩ | refine ⟨.inr rfl, ?_⟩)
      · rw [ht]; rfl
    · have hi' : l.length ≤ i := by have := of_decide_eq_false h; omega
      repeat (first | refine BCase.yes rfl ?_ | refine BCase.no rfl ?_)
      rw [done (.inr hi'), hr]
      exact ⟨rfl, rfl⟩
  | cons a r =>
    have hlen : (mdsV (a :: r)).length = r.length + 1 := by rw [mdsV_len]; rfl
    have hlr : r.length + 1 ≤ 20 := by
      have := congrArg List.length hr
      rw [List.length_map, List.length_take, List.length_cons] at this
      omega
    refine ⟨fun h => ?_, fun h => ?_⟩
    · have hi' : i < l.length := by have := of_decide_eq_true h; omega
      repeat (first | refine BCase.yes rfl ?_ | refine BCase.no rfl ?_)
      refine ⟨fun h => ?_, fun h => ?_⟩
      · have h20 : i < 20 := by have := of_decide_eq_true h; omega
        obtain ⟨c, hc⟩ : ∃ c, l[i]? = some c := ⟨_, List.getElem?_eq_getElem hi'⟩
        refine ⟨mdC c, ⟨by omega, mdsV_get hc⟩, ?_⟩
        refine (near_fn c).sem _ ?_
        have ht := take_snoc hc
        rw [hr] at ht
        refine gdP ?_ ?_
        · show (Nat.beq 2 2 && Nat.beq 2 2 && Nat.beq (r.length + 1) (mdsV (a :: r)).length && (Nat.blt 0 2 && Nat.blt 0 16 && Nat.ble (((mdsV (a :: r)).length + 1) * (2 * 16)) 281474976710656)) = true
          rw [hlen]
          simp only [Bool.and_eq_true]
          exact ⟨⟨⟨rfl, rfl⟩, Nat.beq_refl _⟩, ⟨rfl, rfl⟩, Nat.ble_eq_true_of_le (by omega)⟩
        refine ⟨20 - (i + 1), envQr l ((l.take (i + 1)).map nearOf) (i + 1), hpQ x m ((l.take (i + 1)).map nearOf), by omega, .same ?_ ?_, i + 1, rfl, hi', by omega, rfl, rfl⟩
        · refine ⟨.inl rfl, .inl rfl, .inl rfl, .inl ?_, .inl ?_, ?_⟩
          · show outQ ((l.take (i + 1)).map nearOf) = _
            rw [ht]
            show V.psl 2 (mdsV ((a :: r) ++ [nearOf c])) (.own 3) = _
            exact congrArg (fun z => V.psl 2 z (.own 3)) (by simp [mdsV]; rfl)
          · exact congrArg (V.int .i64) (wrs i 1 (by omega))
          · repeat (first | exact trivial | refine ⟨.inl rfl, ?_⟩ | refine ⟨.inr rfl, ?_⟩)
        · rw [ht]
          show [mB2 24 x, wB m.toNat, rB (allOf m), some (.token 2 ((r ++ [nearOf c]).length + 1))] = _
          rw [List.length_append, List.length_singleton]
          exact congrArg (fun n => [mB2 24 x, wB m.toNat, rB (allOf m), some (.token 2 n)]) (show r.length + 1 + 1 = (mdsV (a :: r)).length + 1 by rw [hlen])
      · have h20 : 20 ≤ i := by have := of_decide_eq_false h; omega
        rw [done (.inl h20), hr]
        exact ⟨rfl, rfl⟩
    · have hi' : l.length ≤ i := by have := of_decide_eq_false h; omega
      repeat (first | refine BCase.yes rfl ?_ | refine BCase.no rfl ?_)
      rw [done (.inr hi'), hr]
      exact ⟨rfl, rfl⟩
end Go.Cx
namespace Go.Cx
open Go.Proofs Go.RowKit
set_option maxRecDepth 100000
set_option maxHeartbeats 8000000
theorem putNil_fn (on : Bool) (m : BitVec 16) : Fn Try.prog 17 [wV m.toNat, .bool on, .nils] (.tup [wV m.toNat, .int .i64 0]) :=
  ⟨rfl, rfl, Sem.argT (args' := [wV m.toNat, .bool on, .psl 2 (mdsV []) .any]) rfl (fun j => by
    match j with
    | 0 => exact .inl rfl
    | 1 => exact .inl rfl
    | 2 => exact .inr (.inr (.inr ⟨rfl, 2, rfl⟩))
    | j + 3 => exact .inl rfl) (put_fn on m [] (by decide)).run⟩
theorem modesNil_fn : Fn Try.prog 24 [.nils] (.psl 2 (mdsV []) .any) :=
  ⟨rfl, rfl, Sem.argT (args' := [.psl 2 (mdsV []) .any]) rfl (fun j => by
    match j with
    | 0 => exact .inr (.inr (.inr ⟨rfl, 2, rfl⟩))
    | j + 1 => exact .inl rfl) (modes_fn [] (by decide)).run⟩
theorem rputNil_fn (on : Bool) (m : BitVec 16) : Fn Try.prog 23 [rV (allOf m), .bool on, .psl 2 (mdsV []) .any] (.tup [rV (allOf m), .int .i64 0]) := rput_fn on m [] (by decide)
theorem own_arg (m : Int) (on : Bool) (l : List Md) : ∀ j, forgT1 ([wV m, .bool on, .psl 2 (mdsV l) (.own 3)].getD j .undef) ([wV m, .bool on, .psl 2 (mdsV l) .any].getD j .undef) := fun j => by
  match j with
  | 0 => exact .inl rfl
  | 1 => exact .inl rfl
  | 2 => exact .inr (.inr (.inl ⟨_, _, _, rfl, rfl⟩))
  | j + 3 => exact .inl rfl
theorem modes_ownT (l : List Md) (hl : l.length < 1000000) {h : Heap} {n : Nat} (h3 : hget h 3 = some (.token 2 n)) : CallT (CallR Try.prog 24) [.psl 2 (mdsV l) (.own 3)] h 5 ⟨.psl 2 (mdsV l) .any, [], [3], 0, none⟩ := by
  refine ⟨rfl, [none, none, none, some (.token 2 n), none], rfl, fun i k hk => ?_, fun p hp => (by cases hp), ⟨rfl, fun i k hk => ?_, rfl, fun i k hk => ?_, fun p hp => (by cases hp)⟩, Sem.fr (Sem.argT (args' := [.psl 2 (mdsV l) .any]) rfl (fun j => by
    match j with
    | 0 => exact .inr (.inr (.inl ⟨_, _, _, rfl, rfl⟩))
    | j + 1 => exact .inl rfl) ((modes_fn l hl).sem _ ⟨rfl, rfl⟩))⟩
  · match i, hk with
    | 0, hk => cases hk
    | 1, hk => cases hk
    | 2, hk => cases hk
    | 3, hk => cases hk; exact ⟨by simp, h3⟩
    | 4, hk => cases hk
    | i + 5, hk => simp [hget] at hk
  · match i, hk with
    | 0, hk => cases hk
    | 1, hk => cases hk
    | 2, hk => cases hk
    | 3, hk => cases hk; exact ⟨rfl, by simp⟩
    | 4, hk => cases hk
    | i + 5, hk => simp [hget] at hk
  · match i, hk with
    | 0, hk => cases hk
    | 1, hk => cases hk
    | 2, hk => cases hk
    | 3, hk => cases hk; rfl
    | 4, hk => cases hk
    | i + 5, hk => simp [hget, applyW] at hk
def envPl (l : List Ac) (x : Md) (i : Int) : List V := .psl 2 (actsV l) .any :: x.v :: .undef :: .ptr 0 0 :: .bool false :: .ptr 1 0 :: .ptr 2 0 :: .int .i64 i :: List.replicate 119 .undef
def envPi (l : List Ac) (x : Md) (i : Int) (id : Nat) (L : List Md) (j : Int) : List V := .psl 2 (actsV l) .any :: x.v :: .undef :: .ptr 0 0 :: .bool false :: .ptr 1 0 :: .ptr 2 0 :: .int .i64 i :: List.replicate 71 .undef ++ .psl 2 (mdsV L) (.own id) :: .int .i64 (L.length : Nat) :: .int .i64 j :: List.replicate 45 .undef
theorem plays_law (l : List Ac) (hl : ∀ a ∈ l, a.ok) (x : Md) : Go.Cx.Sem Try.prog 5 [.psl 2 (actsV l) .any, x.v] [] fun v _ => v = .bool true := by
  have hal := actsV_len l
  refine Sem.of_body tysOk md0 Try.func5 rfl rfl ?_
  refine new_fn.sem _ ?_
  refine rnew_fn.sem _ ?_
  refine LoopP.inv (md := md0) (fun k env h => ∃ (i : Nat) (m : BitVec 16), k = 60 - i ∧ i ≤ l.length ∧ i ≤ 60 ∧ goodM m ∧ env = envPl l x i ∧ h = [mB2 24 x, wB m.toNat, rB (allOf m)]) 60 ⟨envPl l x 0, _, .same (by repeat (first | exact trivial | refine ⟨.inl rfl, ?_⟩ | refine ⟨.inr rfl, ?_⟩)) rfl, 0, 96#16, rfl, Nat.zero_le _, Nat.zero_le _, new_good, rfl, rfl⟩ ?_
  rintro k _ _ ⟨i, m, rfl, hil, hi60, hg, rfl, rfl⟩
  refine ⟨fun h => ?_, fun h => ?_⟩
  · have hi' : i < l.length := by have := of_decide_eq_true h; omega
    repeat (first | refine BCase.yes rfl ?_ | refine BCase.no rfl ?_)
    refine ⟨fun h60 => ?_, fun h60 => ?_⟩
    · have h60' : i < 60 := by have := of_decide_eq_true h60; omega
      obtain ⟨a, ha⟩ : ∃ a, l[i]? = some a := ⟨_, List.getElem?_eq_getElem hi'⟩
      refine ⟨a.cs, ⟨by omega, actsV_get ha⟩, ?_⟩
      refine Sem.mono (row_sem x m a.l) fun v h' ⟨e1, e2⟩ => ?_
      subst e1 e2
      cases hr : rowOf a.l with
      | nil =>
        obtain ⟨L2, hL2e⟩ : ∃ L2 : List Md, L2 = [x, nearOf x] := ⟨_, rfl⟩
        have hLen : L2.length = 2 := by rw [hL2e]; rfl
        refine ⟨a.cs, ⟨by omega, actsV_get ha⟩, ?_⟩
        refine ⟨fun h7 => ?_, fun h7 => ?_⟩
        · refine (soft_fn m).sem _ ?_
          refine (rsoft_fn m).sem _ ?_
          refine DrawP.intro tysOk mixed false ?_
          refine ⟨_, (near_fn x).callT _ _, ?_⟩
          refine ⟨by kernel_rfl, ?_⟩
          have hL2 := mdsV_len L2
          refine LoopP.inv (md := md0) (fun k env h => ∃ (j : Nat), k = L2.length - j ∧ j ≤ L2.length ∧ env = envPi l x i 3 L2 j ∧ h = [mB2 24 x, wB (softOf m).toNat, rB (allOf (softOf m)), some (.token 2 2)]) L2.length ⟨envPi l x i 3 L2 0, [mB2 24 x, wB (softOf m).toNat, rB (allOf (softOf m)), some (.token 2 2)], .same ?_ ?_, 0, rfl, Nat.zero_le _, rfl, rfl⟩ ?_
          · rw [hL2e]
            repeat (first | exact trivial | refine ⟨.inl rfl, ?_⟩ | refine ⟨.inr rfl, ?_⟩)
          · rfl
          rintro k _ _ ⟨j, rfl, hj, rfl, rfl⟩
          refine ⟨fun hh => ?_, fun hh => ?_⟩
          · have hj' : j < L2.length := by have := of_decide_eq_true hh; omega
            obtain ⟨y, hy⟩ : ∃ y, L2[j]? = some y := ⟨_, List.getElem?_eq_getElem hj'⟩
            refine ⟨mdC y, ⟨by omega, mdsV_get hy⟩, ?_⟩
            repeat (first | refine BCase.yes rfl ?_ | refine BCase.no rfl ?_)
            refine DrawP.intro tysOk mixed false ?_
            refine ⟨_, (known_fn y).callT _ _, ?_⟩
            refine ⟨_, (rknown_fn y).callT _ _, ?_⟩
            refine BCase.no (by simp) ?_
            repeat (first | refine BCase.yes rfl ?_ | refine BCase.no rfl ?_)
            refine ⟨_, (alt_fn y).callT _ _, ?_⟩
            repeat (first | refine BCase.yes rfl ?_ | refine BCase.no rfl ?_)
            refine ⟨_, (ralt_fn y).callT _ _, ?_⟩
            repeat (first | refine BCase.yes rfl ?_ | refine BCase.no rfl ?_)
            refine BCase.no (by rw [alt_same]; simp) ?_
            repeat (first | refine BCase.yes rfl ?_ | refine BCase.no rfl ?_)
            refine ⟨_, (is_fn (softOf m) y).callT _ _, ?_⟩
            repeat (first | refine BCase.yes rfl ?_ | refine BCase.no rfl ?_)
            refine ⟨_, (risA_fn (softOf m) y).callT _ _, ?_⟩
            repeat (first | refine BCase.yes rfl ?_ | refine BCase.no rfl ?_)
            refine BCase.no (by simp) ?_
            repeat (first | refine BCase.yes rfl ?_ | refine BCase.no rfl ?_)
            refine ⟨_, (state_fn (softOf m) y).callT _ _, ?_⟩
            repeat (first | refine BCase.yes rfl ?_ | refine BCase.no rfl ?_)
            refine ⟨_, (rstate_fn (softOf m) y).callT _ _, ?_⟩
            repeat (first | refine BCase.yes rfl ?_ | refine BCase.no rfl ?_)
            refine ⟨by kernel_rfl, ?_⟩
            refine BCase.no (by simp) ?_
            refine ⟨L2.length - (j + 1), envPi l x i 3 L2 (j + 1 : Nat), [mB2 24 x, wB (softOf m).toNat, rB (allOf (softOf m)), some (.token 2 2)], by omega, .cut ?_ (by show 4 ≤ 4; omega) rfl rfl, j + 1, rfl, hj', rfl, rfl⟩
            repeat (first | exact trivial | refine ⟨.inl rfl, ?_⟩ | refine ⟨.inr rfl, ?_⟩)
            refine ⟨.inl ?_, ?_⟩
            · exact congrArg (V.int .i64) (wrs j 1 (by omega))
            · repeat (first | exact trivial | refine ⟨.inl rfl, ?_⟩ | refine ⟨.inr rfl, ?_⟩)
          · refine (alike_fn (softOf m) (softOf_good hg)).sem _ ?_
            refine BCase.no rfl ?_
            refine ⟨60 - (i + 1), envPl l x (i + 1 : Nat), [mB2 24 x, wB ((softOf m)).toNat, rB (allOf (softOf m))], by omega, .cut ?_ (by show 3 ≤ 3; omega) rfl rfl, i + 1, (softOf m), rfl, hi', h60', (softOf_good hg), rfl, rfl⟩
            refine ⟨.inl rfl, .inl rfl, .inl rfl, .inl rfl, .inl rfl, .inl rfl, .inl rfl, .inl ?_, ?_⟩
            · exact congrArg (V.int .i64) (wrs i 1 (by omega))
            · repeat (first | exact trivial | refine ⟨.inl rfl, ?_⟩ | refine ⟨.inr rfl, ?_⟩)
        · refine ⟨a.cs, ⟨by omega, actsV_get ha⟩, ?_⟩
          refine (putNil_fn (onOf a) m).sem _ ?_
          refine DrawP.intro tysOk mixed false ?_
          refine ⟨_, modesNil_fn.callT _ _, ?_⟩
          refine ⟨_, (rputNil_fn (onOf a) m).callT _ _, ?_⟩
          refine ⟨by kernel_rfl, ?_⟩
          refine BCase.no (by simp) ?_
          refine DrawP.intro tysOk mixed false ?_
          refine ⟨_, (near_fn x).callT _ _, ?_⟩
          refine ⟨by kernel_rfl, ?_⟩
          have hL2 := mdsV_len L2
          refine LoopP.inv (md := md0) (fun k env h => ∃ (j : Nat), k = L2.length - j ∧ j ≤ L2.length ∧ env = envPi l x i 5 L2 j ∧ h = [mB2 24 x, wB (m).toNat, rB (allOf m), wB m.toNat, rB (allOf m), some (.token 2 2)]) L2.length ⟨envPi l x i 5 L2 0, [mB2 24 x, wB (m).toNat, rB (allOf m), wB m.toNat, rB (allOf m), some (.token 2 2)], .same ?_ ?_, 0, rfl, Nat.zero_le _, rfl, rfl⟩ ?_
          · rw [hL2e]
            repeat (first | exact trivial | refine ⟨.inl rfl, ?_⟩ | refine ⟨.inr rfl, ?_⟩)
          · rfl
          rintro k _ _ ⟨j, rfl, hj, rfl, rfl⟩
          refine ⟨fun hh => ?_, fun hh => ?_⟩
          · have hj' : j < L2.length := by have := of_decide_eq_true hh; omega
            obtain ⟨y, hy⟩ : ∃ y, L2[j]? = some y := ⟨_, List.getElem?_eq_getElem hj'⟩
            refine ⟨mdC y, ⟨by omega, mdsV_get hy⟩, ?_⟩
            repeat (first | refine BCase.yes rfl ?_ | refine BCase.no rfl ?_)
            refine DrawP.intro tysOk mixed false ?_
            refine ⟨_, (known_fn y).callT _ _, ?_⟩
            refine ⟨_, (rknown_fn y).callT _ _, ?_⟩
            refine BCase.no (by simp) ?_
            repeat (first | refine BCase.yes rfl ?_ | refine BCase.no rfl ?_)
            refine ⟨_, (alt_fn y).callT _ _, ?_⟩
            repeat (first | refine BCase.yes rfl ?_ | refine BCase.no rfl ?_)
            refine ⟨_, (ralt_fn y).callT _ _, ?_⟩
            repeat (first | refine BCase.yes rfl ?_ | refine BCase.no rfl ?_)
            refine BCase.no (by rw [alt_same]; simp) ?_
            repeat (first | refine BCase.yes rfl ?_ | refine BCase.no rfl ?_)
            refine ⟨_, (is_fn m y).callT _ _, ?_⟩
            repeat (first | refine BCase.yes rfl ?_ | refine BCase.no rfl ?_)
            refine ⟨_, (risA_fn m y).callT _ _, ?_⟩
            repeat (first | refine BCase.yes rfl ?_ | refine BCase.no rfl ?_)
            refine BCase.no (by simp) ?_
            repeat (first | refine BCase.yes rfl ?_ | refine BCase.no rfl ?_)
            refine ⟨_, (state_fn m y).callT _ _, ?_⟩
            repeat (first | refine BCase.yes rfl ?_ | refine BCase.no rfl ?_)
            refine ⟨_, (rstate_fn m y).callT _ _, ?_⟩
            repeat (first | refine BCase.yes rfl ?_ | refine BCase.no rfl ?_)
            refine ⟨by kernel_rfl, ?_⟩
            refine BCase.no (by simp) ?_
            refine ⟨L2.length - (j + 1), envPi l x i 5 L2 (j + 1 : Nat), [mB2 24 x, wB (m).toNat, rB (allOf m), wB m.toNat, rB (allOf m), some (.token 2 2)], by omega, .cut ?_ (by show 6 ≤ 6; omega) rfl rfl, j + 1, rfl, hj', rfl, rfl⟩
            repeat (first | exact trivial | refine ⟨.inl rfl, ?_⟩ | refine ⟨.inr rfl, ?_⟩)
            refine ⟨.inl ?_, ?_⟩
            · exact congrArg (V.int .i64) (wrs j 1 (by omega))
            · repeat (first | exact trivial | refine ⟨.inl rfl, ?_⟩ | refine ⟨.inr rfl, ?_⟩)
          · refine (alike_fn m hg).sem _ ?_
            refine BCase.no rfl ?_
            refine ⟨60 - (i + 1), envPl l x (i + 1 : Nat), [mB2 24 x, wB (m).toNat, rB (allOf m)], by omega, .cut ?_ (by show 3 ≤ 3; omega) rfl rfl, i + 1, m, rfl, hi', h60', hg, rfl, rfl⟩
            refine ⟨.inl rfl, .inl rfl, .inl rfl, .inl rfl, .inl rfl, .inl rfl, .inl rfl, .inl ?_, ?_⟩
            · exact congrArg (V.int .i64) (wrs i 1 (by omega))
            · repeat (first | exact trivial | refine ⟨.inl rfl, ?_⟩ | refine ⟨.inr rfl, ?_⟩)
      | cons z r =>
        have hzl : (mdsV (z :: r)).length = r.length + 1 := by rw [mdsV_len]; rfl
        have hr20 : r.length + 1 ≤ 20 := by have := rowOf_len a.l; rw [hr] at this; exact this
        obtain ⟨L2, hL2e⟩ : ∃ L2 : List Md, L2 = (z :: r) ++ [x, nearOf x] := ⟨_, rfl⟩
        have hLen : L2.length = r.length + 1 + 2 := by rw [hL2e]; simp
        have eL : mdsV L2 = mdsV (z :: r) ++ [mdC x, mdC (nearOf x)] := by rw [hL2e]; simp [mdsV]
        refine ⟨a.cs, ⟨by omega, actsV_get ha⟩, ?_⟩
        refine ⟨fun h7 => ?_, fun h7 => ?_⟩
        · have e79 : V.psl 2 (mdsV L2) (.own 3) = V.psl 2 (mdsV (z :: r) ++ [mdC x, mdC (nearOf x)]) (.own 3) := by rw [eL]
          have e80 : V.int .i64 (L2.length : Nat) = V.int .i64 (mdsV (z :: r) ++ [mdC x, mdC (nearOf x)]).length := by rw [← eL, mdsV_len]
          refine (soft_fn m).sem _ ?_
          refine (rsoft_fn m).sem _ ?_
          refine DrawP.intro tysOk mixed false ?_
          refine ⟨_, (near_fn x).callT _ _, ?_⟩
          refine gdP ?_ ?_
          · show (Nat.beq 2 2 && Nat.beq 2 2 && Nat.beq (r.length + 1) (mdsV (z :: r)).length && (Nat.blt 0 2 && Nat.blt 0 16 && Nat.ble (((mdsV (z :: r)).length + 2) * (2 * 16)) 281474976710656)) = true
            rw [hzl]
            simp only [Bool.and_eq_true]
            exact ⟨⟨⟨rfl, rfl⟩, Nat.beq_refl _⟩, ⟨rfl, rfl⟩, Nat.ble_eq_true_of_le (by omega)⟩
          refine ⟨by kernel_rfl, ?_⟩
          have hL2 := mdsV_len L2
          refine LoopP.inv (md := md0) (fun k env h => ∃ (j : Nat), k = L2.length - j ∧ j ≤ L2.length ∧ env = envPi l x i 3 L2 j ∧ h = [mB2 24 x, wB (softOf m).toNat, rB (allOf (softOf m)), some (.token 2 L2.length)]) L2.length ⟨envPi l x i 3 L2 0, [mB2 24 x, wB (softOf m).toNat, rB (allOf (softOf m)), some (.token 2 L2.length)], .same ?_ ?_, 0, rfl, Nat.zero_le _, rfl, rfl⟩ ?_
          · repeat (first | exact trivial | refine ⟨.inl rfl, ?_⟩ | refine ⟨.inr rfl, ?_⟩)
            refine ⟨.inl e79, ?_⟩
            refine ⟨.inl e80, ?_⟩
            repeat (first | exact trivial | refine ⟨.inl rfl, ?_⟩ | refine ⟨.inr rfl, ?_⟩)
          · rw [hLen, ← hzl]; rfl
          rintro k _ _ ⟨j, rfl, hj, rfl, rfl⟩
          refine ⟨fun hh => ?_, fun hh => ?_⟩
          · have hj' : j < L2.length := by have := of_decide_eq_true hh; omega
            obtain ⟨y, hy⟩ : ∃ y, L2[j]? = some y := ⟨_, List.getElem?_eq_getElem hj'⟩
            refine ⟨mdC y, ⟨by omega, mdsV_get hy⟩, ?_⟩
            repeat (first | refine BCase.yes rfl ?_ | refine BCase.no rfl ?_)
            refine DrawP.intro tysOk mixed false ?_
            refine ⟨_, (known_fn y).callT _ _, ?_⟩
            refine ⟨_, (rknown_fn y).callT _ _, ?_⟩
            refine BCase.no (by simp) ?_
            repeat (first | refine BCase.yes rfl ?_ | refine BCase.no rfl ?_)
            refine ⟨_, (alt_fn y).callT _ _, ?_⟩
            repeat (first | refine BCase.yes rfl ?_ | refine BCase.no rfl ?_)
            refine ⟨_, (ralt_fn y).callT _ _, ?_⟩
            repeat (first | refine BCase.yes rfl ?_ | refine BCase.no rfl ?_)
            refine BCase.no (by rw [alt_same]; simp) ?_
            repeat (first | refine BCase.yes rfl ?_ | refine BCase.no rfl ?_)
            refine ⟨_, (is_fn (softOf m) y).callT _ _, ?_⟩
            repeat (first | refine BCase.yes rfl ?_ | refine BCase.no rfl ?_)
            refine ⟨_, (risA_fn (softOf m) y).callT _ _, ?_⟩
            repeat (first | refine BCase.yes rfl ?_ | refine BCase.no rfl ?_)
            refine BCase.no (by simp) ?_
            repeat (first | refine BCase.yes rfl ?_ | refine BCase.no rfl ?_)
            refine ⟨_, (state_fn (softOf m) y).callT _ _, ?_⟩
            repeat (first | refine BCase.yes rfl ?_ | refine BCase.no rfl ?_)
            refine ⟨_, (rstate_fn (softOf m) y).callT _ _, ?_⟩
            repeat (first | refine BCase.yes rfl ?_ | refine BCase.no rfl ?_)
            refine ⟨by kernel_rfl, ?_⟩
            refine BCase.no (by simp) ?_
            refine ⟨L2.length - (j + 1), envPi l x i 3 L2 (j + 1 : Nat), [mB2 24 x, wB (softOf m).toNat, rB (allOf (softOf m)), some (.token 2 L2.length)], by omega, .cut ?_ (by show 4 ≤ 4; omega) rfl rfl, j + 1, rfl, hj', rfl, rfl⟩
            repeat (first | exact trivial | refine ⟨.inl rfl, ?_⟩ | refine ⟨.inr rfl, ?_⟩)
            refine ⟨.inl ?_, ?_⟩
            · exact congrArg (V.int .i64) (wrs j 1 (by omega))
            · repeat (first | exact trivial | refine ⟨.inl rfl, ?_⟩ | refine ⟨.inr rfl, ?_⟩)
          · refine (alike_fn (softOf m) (softOf_good hg)).sem _ ?_
            refine BCase.no rfl ?_
            refine ⟨60 - (i + 1), envPl l x (i + 1 : Nat), [mB2 24 x, wB ((softOf m)).toNat, rB (allOf (softOf m))], by omega, .cut ?_ (by show 3 ≤ 3; omega) rfl rfl, i + 1, (softOf m), rfl, hi', h60', (softOf_good hg), rfl, rfl⟩
            refine ⟨.inl rfl, .inl rfl, .inl rfl, .inl rfl, .inl rfl, .inl rfl, .inl rfl, .inl ?_, ?_⟩
            · exact congrArg (V.int .i64) (wrs i 1 (by omega))
            · repeat (first | exact trivial | refine ⟨.inl rfl, ?_⟩ | refine ⟨.inr rfl, ?_⟩)
        · have e79 : V.psl 2 (mdsV L2) (.own 3) = V.psl 2 (mdsV (z :: r) ++ [mdC x, mdC (nearOf x)]) (.own 3) := by rw [eL]
          have e80 : V.int .i64 (L2.length : Nat) = V.int .i64 (mdsV (z :: r) ++ [mdC x, mdC (nearOf x)]).length := by rw [← eL, mdsV_len]
          have hgp := putOf_good (on := onOf a) (z :: r) hg
          refine ⟨a.cs, ⟨by omega, actsV_get ha⟩, ?_⟩
          refine Sem.argT (args' := [wV m.toNat, .bool (onOf a), .psl 2 (mdsV (z :: r)) .any]) rfl (own_arg _ _ _) ((put_fn (onOf a) m (z :: r) (by show r.length + 1 < 1000000; omega)).sem _ ?_)
          refine DrawP.intro tysOk mixed false ?_
          refine ⟨_, modes_ownT (z :: r) (by show r.length + 1 < 1000000; omega) rfl, ?_⟩
          refine ⟨_, (rput_fn (onOf a) m (z :: r) (by show r.length + 1 < 1000000; omega)).callT _ _, ?_⟩
          refine ⟨by kernel_rfl, ?_⟩
          refine BCase.no (by simp) ?_
          generalize (putOf (onOf a) m (z :: r)).1 = w at hgp
          refine DrawP.intro tysOk mixed false ?_
          refine ⟨_, (near_fn x).callT _ _, ?_⟩
          refine gdP ?_ ?_
          · show (Nat.beq 2 2 && Nat.beq 2 2 && Nat.beq (r.length + 1) (mdsV (z :: r)).length && (Nat.blt 0 2 && Nat.blt 0 16 && Nat.ble (((mdsV (z :: r)).length + 2) * (2 * 16)) 281474976710656)) = true
            rw [hzl]
            simp only [Bool.and_eq_true]
            exact ⟨⟨⟨rfl, rfl⟩, Nat.beq_refl _⟩, ⟨rfl, rfl⟩, Nat.ble_eq_true_of_le (by omega)⟩
          refine ⟨by kernel_rfl, ?_⟩
          have hL2 := mdsV_len L2
          refine LoopP.inv (md := md0) (fun k env h => ∃ (j : Nat), k = L2.length - j ∧ j ≤ L2.length ∧ env = envPi l x i 3 L2 j ∧ h = [mB2 24 x, wB (w).toNat, rB (allOf w), some (.token 2 L2.length), wB w.toNat, rB (allOf w)]) L2.length ⟨envPi l x i 3 L2 0, [mB2 24 x, wB (w).toNat, rB (allOf w), some (.token 2 L2.length), wB w.toNat, rB (allOf w)], .same ?_ ?_, 0, rfl, Nat.zero_le _, rfl, rfl⟩ ?_
          · repeat (first | exact trivial | refine ⟨.inl rfl, ?_⟩ | refine ⟨.inr rfl, ?_⟩)
            refine ⟨.inl e79, ?_⟩
            refine ⟨.inl e80, ?_⟩
            repeat (first | exact trivial | refine ⟨.inl rfl, ?_⟩ | refine ⟨.inr rfl, ?_⟩)
          · rw [hLen, ← hzl]; rfl
          rintro k _ _ ⟨j, rfl, hj, rfl, rfl⟩
          refine ⟨fun hh => ?_, fun hh => ?_⟩
          · have hj' : j < L2.length := by have := of_decide_eq_true hh; omega
            obtain ⟨y, hy⟩ : ∃ y, L2[j]? = some y := ⟨_, List.getElem?_eq_getElem hj'⟩
            refine ⟨mdC y, ⟨by omega, mdsV_get hy⟩, ?_⟩
            repeat (first | refine BCase.yes rfl ?_ | refine BCase.no rfl ?_)
            refine DrawP.intro tysOk mixed false ?_
            refine ⟨_, (known_fn y).callT _ _, ?_⟩
            refine ⟨_, (rknown_fn y).callT _ _, ?_⟩
            refine BCase.no (by simp) ?_
            repeat (first | refine BCase.yes rfl ?_ | refine BCase.no rfl ?_)
            refine ⟨_, (alt_fn y).callT _ _, ?_⟩
            repeat (first | refine BCase.yes rfl ?_ | refine BCase.no rfl ?_)
            refine ⟨_, (ralt_fn y).callT _ _, ?_⟩
            repeat (first | refine BCase.yes rfl ?_ | refine BCase.no rfl ?_)
            refine BCase.no (by rw [alt_same]; simp) ?_
            repeat (first | refine BCase.yes rfl ?_ | refine BCase.no rfl ?_)
            refine ⟨_, (is_fn w y).callT _ _, ?_⟩
            repeat (first | refine BCase.yes rfl ?_ | refine BCase.no rfl ?_)
            refine ⟨_, (risA_fn w y).callT _ _, ?_⟩
            repeat (first | refine BCase.yes rfl ?_ | refine BCase.no rfl ?_)
            refine BCase.no (by simp) ?_
            repeat (first | refine BCase.yes rfl ?_ | refine BCase.no rfl ?_)
            refine ⟨_, (state_fn w y).callT _ _, ?_⟩
            repeat (first | refine BCase.yes rfl ?_ | refine BCase.no rfl ?_)
            refine ⟨_, (rstate_fn w y).callT _ _, ?_⟩
            repeat (first | refine BCase.yes rfl ?_ | refine BCase.no rfl ?_)
            refine ⟨by kernel_rfl, ?_⟩
            refine BCase.no (by simp) ?_
            refine ⟨L2.length - (j + 1), envPi l x i 3 L2 (j + 1 : Nat), [mB2 24 x, wB (w).toNat, rB (allOf w), some (.token 2 L2.length), wB w.toNat, rB (allOf w)], by omega, .cut ?_ (by show 6 ≤ 6; omega) rfl rfl, j + 1, rfl, hj', rfl, rfl⟩
            repeat (first | exact trivial | refine ⟨.inl rfl, ?_⟩ | refine ⟨.inr rfl, ?_⟩)
            refine ⟨.inl ?_, ?_⟩
            · exact congrArg (V.int .i64) (wrs j 1 (by omega))
            · repeat (first | exact trivial | refine ⟨.inl rfl, ?_⟩ | refine ⟨.inr rfl, ?_⟩)
          · refine (alike_fn w hgp).sem _ ?_
            refine BCase.no rfl ?_
            refine ⟨60 - (i + 1), envPl l x (i + 1 : Nat), [mB2 24 x, wB (w).toNat, rB (allOf w)], by omega, .cut ?_ (by show 3 ≤ 3; omega) rfl rfl, i + 1, w, rfl, hi', h60', hgp, rfl, rfl⟩
            refine ⟨.inl rfl, .inl rfl, .inl rfl, .inl rfl, .inl rfl, .inl rfl, .inl rfl, .inl ?_, ?_⟩
            · exact congrArg (V.int .i64) (wrs i 1 (by omega))
            · repeat (first | exact trivial | refine ⟨.inl rfl, ?_⟩ | refine ⟨.inr rfl, ?_⟩)
    · refine (alike_fn m hg).sem _ ?_
      repeat (first | refine BCase.yes rfl ?_ | refine BCase.no rfl ?_)
      refine works.sem _ ?_
      rfl
  · repeat (first | refine BCase.yes rfl ?_ | refine BCase.no rfl ?_)
    refine (alike_fn m hg).sem _ ?_
    repeat (first | refine BCase.yes rfl ?_ | refine BCase.no rfl ?_)
    refine works.sem _ ?_
    rfl
end Go.Cx
