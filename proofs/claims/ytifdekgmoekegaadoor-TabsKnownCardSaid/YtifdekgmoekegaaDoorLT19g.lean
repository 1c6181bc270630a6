/- What functions of this seat compute, each for every argument of the shapes that are named; no condition beside the stated ones. -/
import Derived.Test.YtifdekgmoekegaaDoorLT13g
namespace Go.Cx
open Go.Proofs
set_option maxRecDepth 100000
set_option maxHeartbeats 10000000
def downL (t : Tb) : Nat → List Int
  | 0 => []
  | c + 1 => if t.has c then (c : Int) :: downL t c else downL t c
def envF (c : Int) : List V := .yld 5 :: .ptr 2 0 :: .ptr 1 0 :: .undef :: .int .i64 c :: List.replicate 19 .undef
def downN (t : Tb) (col : Int) : Nat := (max 0 (min col t.cols)).toNat
theorem nthF_sem (t : Tb) (ht : t.ok) (col n o : Int) (hn : 1 ≤ n) (hn2 : n < 1000000000) : Sem Tryd.prog 28 [.fn (.func 34) [] [.ptr 2 0, .ptr 1 0], .int .i64 n, .int .i64 o] [tB t, tB t, colB col]
    fun v h' => v = .int .i64 (nthL (downL t (downN t col)) n o) ∧ h' = [tB t, tB t, colB col, none, none, none] := by
  have hc0 := ht.c0
  have hc1 := ht.c1
  have hdn : downN t col ≤ 512 := by unfold downN; omega
  have hst : IntKind.i64.wrap ((if (if t.cols < col then t.cols else col) > 0 then (if t.cols < col then t.cols else col) else 0) - 1) = ((downN t col : Nat) : Int) - 1 := by
    unfold downN
    rw [wr64]
    all_goals (repeat' split) <;> omega
  generalize hr0 : nthL (downL t (downN t col)) n o = r
  refine Sem.less (Sem.of_body tysOk md0 Tryd.func28 rfl rfl ?_)
  refine RangeP.fgt (envR28 34 o) (by unfold envR28; repeat (first | exact trivial | refine ⟨.inl rfl, ?_⟩ | refine ⟨.inr rfl, ?_⟩)) ?_
  refine RangeP.intro rfl rfl ?_
  refine Sem.of_body tysOk md0 Tryd.func34 rfl rfl ?_
  refine LoopP.inv (md := md0) (fun k env h => ∃ (n : Int), k ≤ 512 ∧ 1 ≤ n ∧ n < 1000000000 ∧ nthL (downL t k) n o = r ∧ env = envF ((k : Int) - 1) ∧ h = hpN (tB t) 34 t col o n) (downN t col) ⟨envF ((downN t col : Nat) - 1), _, .same ?_ rfl, n, hdn, hn, hn2, hr0, rfl, rfl⟩ ?_
  · rw [← hst]
    repeat (first | exact trivial | refine ⟨.inl rfl, ?_⟩ | refine ⟨.inr rfl, ?_⟩)
  clear hr0 hn hn2
  rintro k _ _ ⟨n, hk, hn, hn2, hd, rfl, rfl⟩
  refine ⟨fun h => ?_, fun h => ?_⟩
  · obtain ⟨m, rfl⟩ : ∃ m, k = m + 1 := ⟨k - 1, by have := of_decide_eq_true h; omega⟩
    have hm : ((m + 1 : Nat) : Int) - 1 = (m : Int) := by omega
    rw [hm]
    rw [downL] at hd
    refine (has_fn t ht _).sem _ ?_
    refine ⟨fun hh => ?_, fun hh => ?_⟩
    · repeat (first | refine BCase.yes rfl ?_ | refine BCase.no rfl ?_)
      rw [if_pos hh] at hd
      refine RoundP.intro rfl rfl (Wp.of (md := md0) tysOk ?_)
      conv => whnf
      refine Wp.of (md := md0) tysOk ?_
      refine ⟨fun h1 => ?_, fun h1 => ?_⟩
      · repeat (first | refine BCase.yes rfl ?_ | refine BCase.no rfl ?_)
        rw [wr64 (n := n - 1) (by omega) (by omega)] at h1
        have h1' : n - 1 = 0 := by simpa using h1
        rw [nthL, if_pos (by omega)] at hd
        exact ⟨[tB t, tB t, colB col, none, none, none], ⟨.inl rfl, .inl rfl, .inl rfl, .inr rfl, .inr rfl, .inl rfl, trivial⟩, congrArg (V.int .i64) hd, rfl⟩
      · repeat (first | refine BCase.yes rfl ?_ | refine BCase.no rfl ?_)
        rw [wr64 (n := n - 1) (by omega) (by omega)] at h1
        have h1' : n - 1 ≠ 0 := by simpa using h1
        rw [nthL, if_neg (by omega)] at hd
        refine ⟨m, envF ((m : Int) - 1), hpN (tB t) 34 t col o (n - 1), by omega, .same ?_ ?_, n - 1, by omega, by omega, by omega, hd, rfl, rfl⟩
        · refine ⟨.inl rfl, .inl rfl, .inl rfl, .inl rfl, .inl ?_, ?_⟩
          · exact congrArg (V.int .i64) (wr64 (n := (m : Int) - 1) (by omega) (by omega)).symm
          · repeat (first | exact trivial | refine ⟨.inl rfl, ?_⟩ | refine ⟨.inr rfl, ?_⟩)
        · exact congrArg (fun z => [tB t, tB t, colB col, colB z, colB 0, RN 34 o .ready none]) (wr64 (n := n - 1) (by omega) (by omega)).symm
    · repeat (first | refine BCase.yes rfl ?_ | refine BCase.no rfl ?_)
      rw [if_neg (by rw [hh]; simp)] at hd
      refine ⟨m, envF ((m : Int) - 1), hpN (tB t) 34 t col o n, by omega, .same ?_ rfl, n, by omega, hn, hn2, hd, rfl, rfl⟩
      refine ⟨.inl rfl, .inl rfl, .inl rfl, .inl rfl, .inl ?_, ?_⟩
      · exact congrArg (V.int .i64) (wr64 (n := (m : Int) - 1) (by omega) (by omega)).symm
      · repeat (first | exact trivial | refine ⟨.inl rfl, ?_⟩ | refine ⟨.inr rfl, ?_⟩)
  · have hi : k = 0 := by have := of_decide_eq_false h; omega
    subst hi
    exact ⟨[tB t, tB t, colB col, none, none, none], ⟨.inl rfl, .inl rfl, .inl rfl, .inr rfl, .inr rfl, .inl rfl, trivial⟩, congrArg (V.int .i64) hd, rfl⟩
def Tb.next (t : Tb) (col n : Int) : Int := if n < 1 then max 0 (min col (lastI t)) else nthL (above (min col (lastI t)) t.stops) n (lastI t)
def Tb.back (t : Tb) (col n : Int) : Int := if n < 1 then max 0 (min col (lastI t)) else nthL (downL t (downN t col)) n 0
theorem mm_eq (a b : Int) : (if (if b < a then b else a) > 0 then if b < a then b else a else 0) = max 0 (min a b) := by
  split <;> split <;> omega
theorem back_fn (t : Tb) (ht : t.ok) (col n : Int) (hn2 : n < 1000000000) : Fn Tryd.prog 15 [t.v, .int .i64 col, .int .i64 n] (.int .i64 (t.back col n)) := by
  refine Fn.of_body tysOk md0 Tryd.func15 rfl rfl rfl rfl ?_
  unfold Tb.back
  refine ⟨fun h => ?_, fun h => ?_⟩
  · rw [if_pos (of_decide_eq_true h)]
    refine (last_fn t ht).sem _ ?_
    exact congrArg (V.int .i64) (mm_eq col (lastI t))
  · rw [if_neg (of_decide_eq_false h)]
    refine Sem.of_body tysOk md0 Tryd.func30 rfl rfl ?_
    refine Sem.mono (nthF_sem t ht col n 0 (by have := of_decide_eq_false h; omega) hn2) fun v h' ⟨e1, e2⟩ => ?_
    subst e1 e2
    rfl
theorem rising_callT (t : Tb) (col : Int) (h : Heap) : CallT (CallR Tryd.prog 26) [t.v, .int .i64 col] h 1 ⟨.fn (.func 32) [] [.ptr 2 0, .ptr 1 0], [(1, .cells 29 t.cs), (2, .cells 3 [.int .i64 col])], [1, 2], 2, none⟩ := by
  have hn : ∀ i k, ¬ hget [none] i = some k := fun i k hk => by
    match i, hk with
    | 0, hk => cases hk
    | i + 1, hk => simp [hget] at hk
  refine ⟨rfl, [none], rfl, fun i k hk => absurd hk (hn i k), fun p hp => ?_, ⟨rfl, fun i k hk => absurd hk (hn i k), rfl, fun i k hk => ?_, fun p hp => ?_⟩, Sem.fr (Sem.of_body tysOk md0 Tryd.func26 rfl rfl ⟨rfl, rfl⟩)⟩
  · simp at hp
    rcases hp with rfl | rfl <;> simp
  · match i, hk with
    | 0, hk => cases hk
    | 1, hk => cases hk; rfl
    | 2, hk => cases hk; rfl
    | i + 3, hk => simp [hget, applyW] at hk
  · simp at hp
    rcases hp with rfl | rfl
    · exact .inl ⟨show 1 ≤ 1 by omega, show 1 < 3 by omega⟩
    · exact .inl ⟨show 1 ≤ 2 by omega, show 2 < 3 by omega⟩
theorem nthR_callT (t : Tb) (ht : t.ok) (col n o : Int) (hcol : col < 512) (hn : 1 ≤ n) (hn2 : n < 1000000000) (b0 : Option Blk) :
    CallT (CallR Tryd.prog 28) [.fn (.func 32) [] [.ptr 2 0, .ptr 1 0], .int .i64 n, .int .i64 o] [b0, tB t, colB col] 3 ⟨.int .i64 (nthL (above col t.stops) n o), [], [1, 2], 3, none⟩ := by
  refine ⟨rfl, [none, tB t, colB col], rfl, fun i k hk => ?_, fun p hp => (by cases hp), ⟨rfl, fun i k hk => ?_, rfl, fun i k hk => ?_, fun p hp => (by cases hp)⟩, Sem.fr (nthR_sem t ht col n o hcol hn hn2)⟩
  · match i, hk with
    | 0, hk => cases hk
    | 1, hk => exact ⟨by simp, hk⟩
    | 2, hk => exact ⟨by simp, hk⟩
    | i + 3, hk => simp [hget] at hk
  · match i, hk with
    | 0, hk => cases hk
    | 1, hk => cases hk; exact ⟨rfl, by simp⟩
    | 2, hk => cases hk; exact ⟨rfl, by simp⟩
    | i + 3, hk => simp [hget] at hk
  · match i, hk with
    | 0, hk => cases hk
    | 1, hk => cases hk; rfl
    | 2, hk => cases hk; rfl
    | 3, hk => cases hk
    | 4, hk => cases hk
    | 5, hk => cases hk
    | i + 6, hk => simp [hget, applyW] at hk
theorem min_eq (a b : Int) : (if b < a then b else a) = min a b := by split <;> omega
theorem next_fn (t : Tb) (ht : t.ok) (col n : Int) (hn2 : n < 1000000000) : Fn Tryd.prog 13 [t.v, .int .i64 col, .int .i64 n] (.int .i64 (t.next col n)) := by
  have hc0 := ht.c0
  have hc1 := ht.c1
  refine Fn.of_body tysOk md0 Tryd.func13 rfl rfl rfl rfl ?_
  unfold Tb.next
  refine ⟨fun h => ?_, fun h => ?_⟩
  · rw [if_pos (of_decide_eq_true h)]
    refine (last_fn t ht).sem _ ?_
    exact congrArg (V.int .i64) (mm_eq col (lastI t))
  · rw [if_neg (of_decide_eq_false h)]
    refine DrawP.intro tysOk mixed false ?_
    have hmin := min_eq col (lastI t)
    refine ⟨_, (last_fn t ht).callT _ _, ?_⟩
    refine ⟨_, rising_callT t _ _, ?_⟩
    refine ⟨_, (last_fn t ht).callT _ _, ?_⟩
    refine ⟨_, nthR_callT t ht _ n (lastI t) ?_ (by have := of_decide_eq_false h; omega) hn2 (tB t), ?_⟩
    · have : lastI t < 512 := by unfold lastI; omega
      split <;> omega
    refine ⟨by kernel_rfl, ?_⟩
    rw [← hmin]
    rfl
end Go.Cx
namespace Go.Cx
open Go.Proofs
set_option maxRecDepth 100000
set_option maxHeartbeats 10000000
def envN (a : List Int) (i : Int) : List V := .psl 1 (colsV a) .any :: .psl 1 (colsV a) .any :: .undef :: .undef :: .bool false :: .int .i64 i :: List.replicate 20 .undef
theorem ints_fn (a : List Int) (ha : a.length < 1000000) : Fn Tryd.prog 21 [.psl 1 (colsV a) .any, .psl 1 (colsV a) .any] (.bool true) := by
  have hl := colsV_len a
  refine Fn.of_body tysOk md0 Tryd.func21 rfl rfl rfl rfl ?_
  refine BCase.no (by simp) ?_
  refine LoopP.inv (md := md0) (fun k env h => ∃ (i : Nat), k = a.length - i ∧ i ≤ a.length ∧ env = envN a i ∧ h = []) a.length ⟨envN a 0, _, .same (by repeat (first | exact trivial | refine ⟨.inl rfl, ?_⟩ | refine ⟨.inr rfl, ?_⟩)) rfl, 0, rfl, Nat.zero_le _, rfl, rfl⟩ ?_
  rintro k _ _ ⟨i, rfl, hi, rfl, rfl⟩
  refine ⟨fun h => ?_, fun h => ?_⟩
  · have hi' : i < a.length := by have := of_decide_eq_true h; omega
    obtain ⟨c, hc⟩ : ∃ c, a[i]? = some c := ⟨_, List.getElem?_eq_getElem hi'⟩
    refine DrawP.intro tysOk mixed false ?_
    refine ⟨_, ⟨by omega, colsV_get hc⟩, ?_⟩
    refine ⟨_, ⟨by omega, colsV_get hc⟩, ?_⟩
    refine ⟨by kernel_rfl, ?_⟩
    refine BCase.no (by simp) ?_
    refine ⟨a.length - (i + 1), envN a (i + 1 : Nat), [], by omega, .same ?_ rfl, i + 1, rfl, hi', rfl, rfl⟩
    refine ⟨.inl rfl, .inl rfl, .inl rfl, .inl rfl, .inl rfl, .inl ?_, ?_⟩
    · exact congrArg (V.int .i64) (wrS i 1 (by omega))
    · repeat (first | exact trivial | refine ⟨.inl rfl, ?_⟩ | refine ⟨.inr rfl, ?_⟩)
  · rfl
/-! ### What Set and Clear come to -/
theorem foldS_bit (cols : Int) (hc : cols ≤ 512) (c : Nat) : ∀ (l : List Int) (w : Nat → Nat), bit (l.foldl (stepS cols) w) c = (bit w c || (decide ((c : Int) ∈ l) && decide ((c : Int) < cols)))
  | [], w => by simp
  | x :: l, w => by
    rw [List.foldl_cons, foldS_bit cols hc c l]
    unfold stepS
    by_cases hx : 0 ≤ x ∧ x < cols
    · rw [if_pos hx, sett_bit]
      by_cases hxc : c = x.toNat
      · have : (c : Int) = x := by omega
        have h2 : (c : Int) < cols := by omega
        simp [this.symm, h2]
      · have : ¬ (c : Int) = x := by omega
        simp [hxc, this]
    · rw [if_neg hx]
      by_cases hxc : (c : Int) = x
      · have : ¬ (c : Int) < cols := by omega
        simp [this]
      · simp [hxc]
theorem foldC_bit (cols : Int) (hc : cols ≤ 512) (c : Nat) : ∀ (l : List Int) (w : Nat → Nat), bit (l.foldl (stepC cols) w) c = (bit w c && !(decide ((c : Int) ∈ l) && decide ((c : Int) < cols)))
  | [], w => by simp
  | x :: l, w => by
    rw [List.foldl_cons, foldC_bit cols hc c l]
    unfold stepC
    by_cases hx : 0 ≤ x ∧ x < cols
    · rw [if_pos hx, clr_bit]
      by_cases hxc : c = x.toNat
      · have : (c : Int) = x := by omega
        have h2 : (c : Int) < cols := by omega
        simp [this.symm, h2]
      · have : ¬ (c : Int) = x := by omega
        simp [hxc, this]
    · rw [if_neg hx]
      by_cases hxc : (c : Int) = x
      · have : ¬ (c : Int) < cols := by omega
        simp [this]
      · simp [hxc]
theorem put_has (t : Tb) (ht : t.good) (b : Int) (l : List Int) (c : Int) : (t.put b l).has c = (t.has c || (decide (c ∈ l) && t.there c)) := by
  unfold Tb.has
  have e : (t.put b l).there c = t.there c := rfl
  rw [e]
  cases h : t.there c with
  | false => simp
  | true =>
    unfold Tb.there at h
    simp only [Bool.and_eq_true, decide_eq_true_eq] at h
    have := foldS_bit t.cols ht.ok.c1 c.toNat l t.w
    show (true && bit (l.foldl (stepS t.cols) t.w) c.toNat) = _
    rw [this]
    have e1 : ((c.toNat : Nat) : Int) = c := by omega
    rw [e1]
    simp [h.2]
theorem clear_has (t : Tb) (ht : t.good) (b : Int) (l : List Int) (c : Int) : (t.clear b l).has c = (t.has c && !(decide (c ∈ l) && t.there c)) := by
  unfold Tb.has
  have e : (t.clear b l).there c = t.there c := rfl
  rw [e]
  cases h : t.there c with
  | false => simp
  | true =>
    unfold Tb.there at h
    simp only [Bool.and_eq_true, decide_eq_true_eq] at h
    have := foldC_bit t.cols ht.ok.c1 c.toNat l t.w
    show (true && bit (l.foldl (stepC t.cols) t.w) c.toNat) = _
    rw [this]
    have e1 : ((c.toNat : Nat) : Int) = c := by omega
    rw [e1]
    simp [h.2]
theorem jn2_zero {x : Int} (h : x = 0 ∨ x = 1) : jn2 x 0 = x := by unfold jn2; rcases h with rfl | rfl <;> simp
theorem put_clear (t : Tb) (ht : t.good) (b : Int) (l : List Int) : ((t.put b l).clear 0 l).lab = (t.clear b l).lab ∧ ∀ i, i < 8 → ((t.put b l).clear 0 l).w i = (t.clear b l).w i := by
  refine ⟨jn2_zero (jn01 _ _), ?_⟩
  refine words_ext (clear_good (put_good ht b l) 0 l).ok.w (clear_good ht b l).ok.w fun c _ => ?_
  show bit (l.foldl (stepC t.cols) (l.foldl (stepS t.cols) t.w)) c = bit (l.foldl (stepC t.cols) t.w) c
  rw [foldC_bit _ ht.ok.c1, foldC_bit _ ht.ok.c1, foldS_bit _ ht.ok.c1]
  cases decide ((c : Int) ∈ l) && decide ((c : Int) < t.cols) <;> simp
end Go.Cx
namespace Go.Cx
open Go.Proofs
set_option maxRecDepth 100000
set_option maxHeartbeats 10000000
theorem Sem.argT {P : Program} {g : FuncId} {args args' : List V} {h : Heap} {K : V → Heap → Prop} (hl : args'.length = args.length) (hf : ∀ j, forgT1 (args.getD j .undef) (args'.getD j .undef)) (k : Sem P g args' h K) : Sem P g args h K :=
  ⟨fun φ μ B w cargs hB r ha => k.run φ μ B w cargs hB r ⟨hl.trans ha.1, fun j => forgT1_ok (ha.2 j) (hf j)⟩⟩
def exV (l : List Int) : V := .psl 1 (colsV l) .exact
theorem ex_arg (t : Tb) (b : Int) (l : List Int) : ∀ j, forgT1 ([t.v, .int .u8 b, exV l].getD j .undef) ([t.v, .int .u8 b, .psl 1 (colsV l) .any].getD j .undef) := fun j => by
  match j with
  | 0 => exact .inl rfl
  | 1 => exact .inl rfl
  | 2 => exact .inr (.inr (.inl ⟨_, _, _, rfl, rfl⟩))
  | j + 3 => exact .inl rfl
theorem putE_fn (t : Tb) (ht : t.ok) (b : Int) (l : List Int) (hl : l.length < 1000000) : Fn Tryd.prog 18 [t.v, .int .u8 b, exV l] (t.put b l).v :=
  ⟨rfl, rfl, Sem.argT (args' := [t.v, .int .u8 b, .psl 1 (colsV l) .any]) rfl (ex_arg t b l) (put_fn t ht b l hl).run⟩
theorem clearE_fn (t : Tb) (ht : t.ok) (b : Int) (l : List Int) (hl : l.length < 1000000) : Fn Tryd.prog 20 [t.v, .int .u8 b, exV l] (t.clear b l).v :=
  ⟨rfl, rfl, Sem.argT (args' := [t.v, .int .u8 b, .psl 1 (colsV l) .any]) rfl (ex_arg t b l) (clear_fn t ht b l hl).run⟩
/-- All columns that there can be. -/
def allT : Tb := ⟨fun i => if i < 8 then 18446744073709551615 else 0, 512, 1, 1⟩
def zeroT : Tb := ⟨fun _ => 0, 0, 0, 0⟩
theorem allT_ok : allT.ok := ⟨by decide, by decide, fun i => by show (if i < 8 then 18446744073709551615 else 0) < 2 ^ 64; split <;> decide⟩
theorem zeroT_ok : zeroT.ok := (zero_good 0).ok
theorem allT_bit (c : Nat) (h : c < 512) : bit allT.w c = true := by
  unfold bit allT
  show (if c / 64 < 8 then 18446744073709551615 else 0 : Nat).testBit (c % 64) = true
  rw [if_pos (by omega), show 18446744073709551615 = 2 ^ 64 - 1 by decide, Nat.testBit_two_pow_sub_one]
  simp; omega
theorem all_eq (t : Tb) (ht : t.good) (hc : t.cols = 512) (hl : t.lab = 1) (hb : t.base = 1) (h : ∀ c, c < 512 → bit t.w c = true) : tB t = tB allT := by
  have e := words_ext ht.ok.w allT_ok.w (n := 8) fun c hc => by rw [h c hc, allT_bit c hc]
  unfold tB Tb.cs
  rw [e 0 (by omega), e 1 (by omega), e 2 (by omega), e 3 (by omega), e 4 (by omega), e 5 (by omega), e 6 (by omega), e 7 (by omega), hc, hl, hb]
  rfl
def envK (i : Int) : List V := .bool false :: .ptr 0 0 :: .ptr 1 0 :: .int .i64 i :: List.replicate 149 .undef
def oneT : Tb := Tb.resize ⟨fun _ => 0, 0, 0, 0⟩ 1
theorem oneT_ok : oneT.ok := (resize_good (zero_good 0) 1).ok
theorem known_sem : Sem Tryd.prog 7 [] [] fun v _ => v = .bool true := by
  refine Sem.of_body tysOk md0 Tryd.func7 rfl rfl ?_
  refine works.sem _ ?_
  refine BCase.no rfl ?_
  refine (new_fn 513 1).sem _ ?_
  refine LoopP.inv (md := md0) (fun k env h => ∃ (i : Nat) (t : Tb), k = 600 - i ∧ i ≤ 600 ∧ t.good ∧ t.cols = 512 ∧ t.lab = 1 ∧ t.base = 1 ∧ (∀ c, c < i → c < 512 → bit t.w c = true) ∧ (i = 600 → t = allT) ∧ env = envK i ∧ h = [tB zeroT, tB t]) 600 ⟨envK 0, _, .same (by repeat (first | exact trivial | refine ⟨.inl rfl, ?_⟩ | refine ⟨.inr rfl, ?_⟩)) rfl, 0, _, rfl, Nat.zero_le _, resize_good (zero_good 1) _, rfl, rfl, rfl, fun c hc => by omega, fun h => by omega, rfl, rfl⟩ ?_
  rintro k _ _ ⟨i, t, rfl, hi, ht, hc, hl, hb, hbit, hfin, rfl, rfl⟩
  refine ⟨fun h => ?_, fun h => ?_⟩
  · have hi' : i < 600 := by have := of_decide_eq_true h; omega
    refine (putE_fn t ht.ok 0 [(i : Int)] (by show 1 < 1000000; omega)).sem _ ?_
    have hg := put_good ht 0 [(i : Int)]
    have hlab : (t.put 0 [(i : Int)]).lab = 1 := by show jn2 t.lab 0 = 1; rw [hl]; rfl
    have hbit2 : ∀ c, c < i + 1 → c < 512 → bit (t.put 0 [(i : Int)]).w c = true := fun c h1 h2 => by
      show bit ([(i : Int)].foldl (stepS t.cols) t.w) c = true
      rw [foldS_bit t.cols (by omega), hc]
      by_cases h3 : c < i
      · rw [hbit c h3 h2]; rfl
      · have : c = i := by omega
        subst this
        simp; omega
    obtain ⟨t2, e1, e2, e3, e4, e5, e6, e7⟩ : ∃ t2 : Tb, tB (t.put 0 [(i : Int)]) = tB t2 ∧ t2.good ∧ t2.cols = 512 ∧ t2.lab = 1 ∧ t2.base = 1 ∧ (∀ c, c < i + 1 → c < 512 → bit t2.w c = true) ∧ (i + 1 = 600 → t2 = allT) := by
      by_cases h6 : i + 1 = 600
      · exact ⟨allT, all_eq _ hg hc hlab hb fun c hc2 => hbit2 c (by omega) hc2, ⟨allT_ok, fun c hc2 => by
          have h8 : 8 ≤ c / 64 := by have : (512 : Nat) ≤ c := hc2; omega
          show (if c / 64 < 8 then 18446744073709551615 else 0 : Nat).testBit (c % 64) = false
          rw [if_neg (by omega)]; simp⟩, rfl, rfl, rfl, fun c _ hc2 => allT_bit c hc2, fun _ => rfl⟩
      · exact ⟨_, rfl, hg, hc, hlab, hb, hbit2, fun h => absurd h h6⟩
    refine ⟨600 - (i + 1), envK (i + 1 : Nat), [tB zeroT, tB (t.put 0 [(i : Int)])], by omega, .same ?_ rfl, i + 1, t2, rfl, hi', e2, e3, e4, e5, e6, e7, rfl, by rw [e1]⟩
    refine ⟨.inl rfl, .inl rfl, .inl rfl, .inl ?_, ?_⟩
    · exact congrArg (V.int .i64) (wrs i 1 (by omega))
    · repeat (first | exact trivial | refine ⟨.inl rfl, ?_⟩ | refine ⟨.inr rfl, ?_⟩)
  · have hi' : i = 600 := by have := of_decide_eq_false h; omega
    have := hfin hi'
    subst this
    clear hfin hbit hb hl hc ht h hi
    subst hi'
    refine (new_fn 1 0).sem _ ?_
    have f1 : allT.next 510 1 = 511 := by decide +kernel
    have f2 : allT.next (-5) 1 = 0 := by decide +kernel
    have f3 : allT.next 600 1 = 511 := by decide +kernel
    have f4 : allT.next 600 0 = 511 := by decide +kernel
    have f5 : allT.back (-5) 1 = 0 := by decide +kernel
    have f6 : allT.back 600 1 = 511 := by decide +kernel
    have f7 : allT.next 63 2 = 65 := by decide +kernel
    have f8 : allT.back 65 2 = 63 := by decide +kernel
    have f9 : zeroT.next 3 1 = 0 := by decide +kernel
    have f10 : zeroT.back 3 1 = 0 := by decide +kernel
    have f11 : zeroT.stops = [] := by decide +kernel
    have f12 : zeroT.next 3 0 = 0 := by decide +kernel
    have f13 : oneT.next 0 1 = 0 := by decide +kernel
    have f14 : oneT.stops = [] := by decide +kernel
    have f15 : allT.stops.length = 512 := by decide +kernel
    have f16 : allT.stops[511]? = some 511 := by decide +kernel
    have l15 := colsV_len allT.stops
    refine (cols_fn allT).sem _ ?_
    repeat (first | refine BCase.yes rfl ?_ | refine BCase.no rfl ?_)
    refine (list_fn allT allT_ok).sem _ ?_
    repeat (first | refine BCase.yes rfl ?_ | refine BCase.no rfl ?_)
    refine (list_fn allT allT_ok).sem _ ?_
    repeat (first | refine BCase.yes rfl ?_ | refine BCase.no rfl ?_)
    refine ⟨_, ⟨by omega, colsV_get f16⟩, ?_⟩
    repeat (first | refine BCase.yes rfl ?_ | refine BCase.no rfl ?_)
    refine (label_fn allT).sem _ ?_
    repeat (first | refine BCase.yes rfl ?_ | refine BCase.no rfl ?_)
    refine (none_fn allT).sem _ ?_
    repeat (first | refine BCase.yes rfl ?_ | refine BCase.no rfl ?_)
    refine (label_fn allT.none).sem _ ?_
    repeat (first | refine BCase.yes rfl ?_ | refine BCase.no rfl ?_)
    refine (next_fn allT allT_ok 510 1 (by decide)).sem _ ?_
    rw [f1]
    repeat (first | refine BCase.yes rfl ?_ | refine BCase.no rfl ?_)
    refine (next_fn allT allT_ok (-5) 1 (by decide)).sem _ ?_
    rw [f2]
    repeat (first | refine BCase.yes rfl ?_ | refine BCase.no rfl ?_)
    refine (next_fn allT allT_ok 600 1 (by decide)).sem _ ?_
    rw [f3]
    repeat (first | refine BCase.yes rfl ?_ | refine BCase.no rfl ?_)
    refine (next_fn allT allT_ok 600 0 (by decide)).sem _ ?_
    rw [f4]
    repeat (first | refine BCase.yes rfl ?_ | refine BCase.no rfl ?_)
    refine (back_fn allT allT_ok (-5) 1 (by decide)).sem _ ?_
    rw [f5]
    repeat (first | refine BCase.yes rfl ?_ | refine BCase.no rfl ?_)
    refine (back_fn allT allT_ok 600 1 (by decide)).sem _ ?_
    rw [f6]
    repeat (first | refine BCase.yes rfl ?_ | refine BCase.no rfl ?_)
    refine (next_fn allT allT_ok 63 2 (by decide)).sem _ ?_
    rw [f7]
    repeat (first | refine BCase.yes rfl ?_ | refine BCase.no rfl ?_)
    refine (back_fn allT allT_ok 65 2 (by decide)).sem _ ?_
    rw [f8]
    repeat (first | refine BCase.yes rfl ?_ | refine BCase.no rfl ?_)
    refine (next_fn zeroT zeroT_ok 3 1 (by decide)).sem _ ?_
    rw [f9]
    repeat (first | refine BCase.yes rfl ?_ | refine BCase.no rfl ?_)
    refine (back_fn zeroT zeroT_ok 3 1 (by decide)).sem _ ?_
    rw [f10]
    repeat (first | refine BCase.yes rfl ?_ | refine BCase.no rfl ?_)
    refine (list_fn zeroT zeroT_ok).sem _ ?_
    rw [f11]
    repeat (first | refine BCase.yes rfl ?_ | refine BCase.no rfl ?_)
    refine (next_fn zeroT zeroT_ok 3 0 (by decide)).sem _ ?_
    rw [f12]
    repeat (first | refine BCase.yes rfl ?_ | refine BCase.no rfl ?_)
    refine (has_fn zeroT zeroT_ok 0).sem _ ?_
    repeat (first | refine BCase.yes rfl ?_ | refine BCase.no rfl ?_)
    refine (new_fn (-4) 0).sem _ ?_
    repeat (first | refine BCase.yes rfl ?_ | refine BCase.no rfl ?_)
    refine (cols_fn _).sem _ ?_
    repeat (first | refine BCase.yes rfl ?_ | refine BCase.no rfl ?_)
    refine (next_fn oneT oneT_ok 0 1 (by decide)).sem _ ?_
    rw [f13]
    repeat (first | refine BCase.yes rfl ?_ | refine BCase.no rfl ?_)
    refine (list_fn oneT oneT_ok).sem _ ?_
    rw [f14]
    repeat (first | refine BCase.yes rfl ?_ | refine BCase.no rfl ?_)
    have g1 : (oneT.put 0 [1, -1]).has 1 = false := by decide +kernel
    have g2 : (oneT.put 0 [0]).has 0 = true := by decide +kernel
    have g3 : (Tb.resize ⟨fun _ => 0, 0, 0, 0⟩ 9).has 8 = true := by decide +kernel
    refine (putE_fn oneT oneT_ok 0 [1, -1] (by decide)).sem _ ?_
    repeat (first | refine BCase.yes rfl ?_ | refine BCase.no rfl ?_)
    refine (has_fn (oneT.put 0 [1, -1]) (put_good (resize_good (zero_good 0) 1) _ _).ok 1).sem _ ?_
    rw [g1]
    repeat (first | refine BCase.yes rfl ?_ | refine BCase.no rfl ?_)
    refine (putE_fn oneT oneT_ok 0 [0] (by decide)).sem _ ?_
    repeat (first | refine BCase.yes rfl ?_ | refine BCase.no rfl ?_)
    refine (has_fn (oneT.put 0 [0]) (put_good (resize_good (zero_good 0) 1) _ _).ok 0).sem _ ?_
    rw [g2]
    repeat (first | refine BCase.yes rfl ?_ | refine BCase.no rfl ?_)
    refine (new_fn 9 0).sem _ ?_
    repeat (first | refine BCase.yes rfl ?_ | refine BCase.no rfl ?_)
    refine (has_fn _ (resize_good (zero_good 0) 9).ok 8).sem _ ?_
    rw [g3]
    repeat (first | refine BCase.yes rfl ?_ | refine BCase.no rfl ?_)
    refine (new_fn 64 0).sem _ ?_
    repeat (first | refine BCase.yes rfl ?_ | refine BCase.no rfl ?_)
    refine (clearE_fn _ (resize_good (zero_good 0) 64).ok 0 [8, 16, 24, 32, 40, 48, 56] (by decide)).sem _ ?_
    repeat (first | refine BCase.yes rfl ?_ | refine BCase.no rfl ?_)
    refine (new_fn 64 0).sem _ ?_
    repeat (first | refine BCase.yes rfl ?_ | refine BCase.no rfl ?_)
    refine (none_fn _).sem _ ?_
    repeat (first | refine BCase.yes rfl ?_ | refine BCase.no rfl ?_)
    refine congrArg V.bool ?_
    decide +kernel
end Go.Cx
