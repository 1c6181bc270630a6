/- What functions of this seat compute, each for every argument of the shapes that are named; no condition beside the stated ones. -/
import Derived.Test.YtifdekgmoekegaaDoorLT13g
namespace Go.Cx
open Go.Proofs
set_option maxRecDepth 100000
set_option maxHeartbeats 10000000
def downL (t : Tb) : Nat → List Int
  | 0 => []
  | c + 1 => if t.has c then (c : Int) :: downL t c else downL t c
def envF (c : Int) : List V := .yld 5 :: .ptr 2 0 :: .ptr 1 0 :: .undef :: .int .i64 c :: List.replicate 19 .undef
def downN (t : Tb) (col : Int) : Nat := (max 0 (min col t.cols)).toNat
theorem nthF_sem (t : Tb) (ht : t.ok) (col n o : Int) (hn : 1 ≤ n) (hn2 : n < 1000000000) : Sem Tryd.prog 28 [.fn (.func 34) [] [.ptr 2 0, .ptr 1 0], .int .i64 n, .int .i64 o] [tB t, tB t, colB col]
    fun v h' => v = .int .i64 (nthL (downL t (downN t col)) n o) ∧ h' = [tB t, tB t, colB col, none, none, none] := by
  have hc0 := ht.c0
  have hc1 := ht.c1
  have hdn : downN t col ≤ 512 := by unfold downN; omega
  have hst : IntKind.i64.wrap ((if (if t.cols < col then t.cols else col) > 0 then (if t.cols < col then t.cols else col) else 0) - 1) = ((downN t col : Nat) : Int) - 1 := by
    unfold downN
    rw [wr64]
    all_goals (repeat' split) <;> omega
  generalize hr0 : nthL (downL t (downN t col)) n o = r
  refine Sem.less (Sem.of_body tysOk md0 Tryd.func28 rfl rfl ?_)
  refine RangeP.fgt (envR28 34 o) (by unfold envR28; repeat (first | exact trivial | refine ⟨.inl rfl, ?_⟩ | refine ⟨.inr rfl, ?_⟩)) ?_
  refine RangeP.intro rfl rfl ?_
  refine Sem.of_body tysOk md0 Tryd.func34 rfl rfl ?_
  refine LoopP.inv (md := md0) (fun k env h => ∃ (n : Int), k ≤ 512 ∧ 1 ≤ n ∧ n < 1000000000 ∧ nthL (downL t k) n o = r ∧ env = envF ((k : Int) - 1) ∧ h = hpN (tB t) 34 t col o n) (downN t col) ⟨envF ((downN t col : Nat) - 1), _, .same ?_ rfl, n, hdn, hn, hn2, hr0, rfl, rfl⟩ ?_
  · rw [← hst]
    repeat (first | exact trivial | refine ⟨.inl rfl, ?_⟩ | refine ⟨.inr rfl, ?_⟩)
  clear hr0 hn hn2
  rintro k _ _ ⟨n, hk, hn, hn2, hd, rfl, rfl⟩
  refine ⟨fun h => ?_, fun h => ?_⟩
  · obtain ⟨m, rfl⟩ : ∃ m, k = m + 1 := ⟨k - 1, by have := of_decide_eq_true h; omega⟩
    have hm : ((m + 1 : Nat) : Int) - 1 = (m : Int) := by omega
    rw [hm]
    rw [downL] at hd
    refine (has_fn t ht _).sem _ ?_
    refine ⟨fun hh => ?_, fun hh => ?_⟩
    · repeat (first | refine BCase.yes rfl ?_ | refine BCase.no rfl ?_)
      rw [if_pos hh] at hd
      refine RoundP.intro rfl rfl (Wp.of (md := md0) tysOk ?_)
      conv => whnf
      refine Wp.of (md := md0) tysOk ?_
      refine ⟨fun h1 => ?_, fun h1 => ?_⟩
      · repeat (first | refine BCase.yes rfl ?_ | refine BCase.no rfl ?_)
        rw [wr64 (n := n - 1) (by omega) (by omega)] at h1
        have h1' : n - 1 = 0 := by simpa using h1
        rw [nthL, if_pos (by omega)] at hd
        exact ⟨[tB t, tB t, colB col, none, none, none], ⟨.inl rfl, .inl rfl, .inl rfl, .inr rfl, .inr rfl, .inl rfl, trivial⟩, congrArg (V.int .i64) hd, rfl⟩
      · repeat (first | refine BCase.yes rfl ?_ | refine BCase.no rfl ?_)
        rw [wr64 (n := n - 1) (by omega) (by omega)] at h1
        have h1' : n - 1 ≠ 0 := by simpa using h1
        rw [nthL, if_neg (by omega)] at hd
        refine ⟨m, envF ((m : Int) - 1), hpN (tB t) 34 t col o (n - 1), by omega, .same ?_ ?_, n - 1, by omega, by omega, by omega, hd, rfl, rfl⟩
        · refine ⟨.inl rfl, .inl rfl, .inl rfl, .inl rfl, .inl ?_, ?_⟩
          · exact congrArg (V.int .i64) (wr64 (n := (m : Int) - 1) (by omega) (by omega)).symm
          · repeat (first | exact trivial | refine ⟨.inl rfl, ?_⟩ | refine ⟨.inr rfl, ?_⟩)
        · exact congrArg (fun z => [tB t, tB t, colB col, colB z, colB 0, RN 34 o .ready none]) (wr64 (n := n - 1) (by omega) (by omega)).symm
    · repeat (first | refine BCase.yes rfl ?_ | refine BCase.no rfl ?_)
      rw [if_neg (by rw [hh]; simp)] at hd
      refine ⟨m, envF ((m : Int) - 1), hpN (tB t) 34 t col o n, by omega, .same ?_ rfl, n, by omega, hn, hn2, hd, rfl, rfl⟩
      refine ⟨.inl rfl, .inl rfl, .inl rfl, .inl rfl, .inl ?_, ?_⟩
      · exact congrArg (V.int .i64) (wr64 (n := (m : Int) - 1) (by omega) (by omega)).symm
      · repeat (first | exact trivial | refine ⟨.inl rfl, ?_⟩ | refine ⟨.inr rfl, ?_⟩)
  · have hi : k = 0 := by have := of_decide_eq_false h; omega
    subst hi
    exact ⟨[tB t, tB t, colB col, none, none, none], ⟨.inl rfl, .inl rfl, .inl rfl, .inr rfl, .inr rfl, .inl rfl, trivial⟩, congrArg (V.int .i64) hd, rfl⟩
def Tb.next (t : Tb) (col n : Int) : Int := if n < 1 then max 0 (min col (lastI t)) else nthL (above (min col (lastI t)) t.stops) n (lastI t)
def Tb.back (t : Tb) (col n : Int) : Int := if n < 1 then max 0 (min col (lastI t)) else nthL (downL t (downN t col)) n 0
theorem mm_eq (a b : Int) : (if (if b < a then b else a) > 0 then if b < a then b else a else 0) = max 0 (min a b) := by
  split <;> split <;> omega
theorem back_fn (t : Tb) (ht : t.ok) (col n : Int) (hn2 : n < 1000000000) : Fn Tryd.prog 15 [t.v, .int .i64 col, .int .i64 n] (.int .i64 (t.back col n)) := by
  refine Fn.of_body tysOk md0 Tryd.func15 rfl rfl rfl rfl ?_
  unfold Tb.back
  refine ⟨fun h => ?_, fun h => ?_⟩
  · rw [if_pos (of_decide_eq_true h)]
    refine (last_fn t ht).sem _ ?_
    exact congrArg (V.int .i64) (mm_eq col (lastI t))
  · rw [if_neg (of_decide_eq_false h)]
    refine Sem.of_body tysOk md0 Tryd.func30 rfl rfl ?_
    refine Sem.mono (nthF_sem t ht col n 0 (by have := of_decide_eq_false h; omega) hn2) fun v h' ⟨e1, e2⟩ => ?_
    subst e1 e2
    rfl
theorem rising_callT (t : Tb) (col : Int) (h : Heap) : CallT (CallR Tryd.prog 26) [t.v, .int .i64 col] h 1 ⟨.fn (.func 32) [] [.ptr 2 0, .ptr 1 0], [(1, .cells 29 t.cs), (2, .cells 3 [.int .i64 col])], [1, 2], 2, none⟩ := by
  have hn : ∀ i k, ¬ hget [none] i = some k := fun i k hk => by
    match i, hk with
    | 0, hk => cases hk
    | i + 1, hk => simp [hget] at hk
  refine ⟨rfl, [none], rfl, fun i k hk => absurd hk (hn i k), fun p hp => ?_, ⟨rfl, fun i k hk => absurd hk (hn i k), rfl, fun i k hk => ?_, fun p hp => ?_⟩, Sem.fr (Sem.of_body tysOk md0 Tryd.func26 rfl rfl ⟨rfl, rfl⟩)⟩
  · simp at hp
    rcases hp with rfl | rfl <;> simp
  · match i, hk with
    | 0, hk => cases hk
    | 1, hk => cases hk; rfl
    | 2, hk => cases hk; rfl
    | i + 3, hk => simp [hget, applyW] at hk
  · simp at hp
    rcases hp with rfl | rfl
    · exact .inl ⟨show 1 ≤ 1 by omega, show 1 < 3 by omega⟩
    · exact .inl ⟨show 1 ≤ 2 by omega, show 2 < 3 by omega⟩
theorem nthR_callT (t : Tb) (ht : t.ok) (col n o : Int) (hcol : col < 512) (hn : 1 ≤ n) (hn2 : n < 1000000000) (b0 : Option Blk) :
    CallT (CallR Tryd.prog 28) [.fn (.func 32) [] [.ptr 2 0, .ptr 1 0], .int .i64 n, .int .i64 o] [b0, tB t, colB col] 3 ⟨.int .i64 (nthL (above col t.stops) n o), [], [1, 2], 3, none⟩ := by
  refine ⟨rfl, [none, tB t, colB col], rfl, fun i k hk => ?_, fun p hp => (by cases hp), ⟨rfl, fun i k hk => ?_, rfl, fun i k hk => ?_, fun p hp => (by cases hp)⟩, Sem.fr (nthR_sem t ht col n o hcol hn hn2)⟩
  · match i, hk with
    | 0, hk => cases hk
    | 1, hk => exact ⟨by simp, hk⟩
    | 2, hk => exact ⟨by simp, hk⟩
    | i + 3, hk => simp [hget] at hk
  · match i, hk with
    | 0, hk => cases hk
    | 1, hk => cases hk; exact ⟨rfl, by simp⟩
    | 2, hk => cases hk; exact ⟨rfl, by simp⟩
    | i + 3, hk => simp [hget] at hk
  · match i, hk with
    | 0, hk => cases hk
    | 1, hk => cases hk; rfl
    | 2, hk => cases hk; rfl
    | 3, hk => cases hk
    | 4, hk => cases hk
    | 5, hk => cases hk
    | i + 6, hk => simp [hget, applyW] at hk
theorem min_eq (a b : Int) : (if b < a then b else a) = min a b := by split <;> omega
theorem next_fn (t : Tb) (ht : t.ok) (col n : Int) (hn2 : n < 1000000000) : Fn Tryd.prog 13 [t.v, .int .i64 col, .int .i64 n] (.int .i64 (t.next col n)) := by
  have hc0 := ht.c0
  have hc1 := ht.c1
  refine Fn.of_body tysOk md0 Tryd.func13 rfl rfl rfl rfl ?_
  unfold Tb.next
  refine ⟨fun h => ?_, fun h => ?_⟩
  · rw [if_pos (of_decide_eq_true h)]
    refine (last_fn t ht).sem _ ?_
    exact congrArg (V.int .i64) (mm_eq col (lastI t))
  · rw [if_neg (of_decide_eq_false h)]
    refine DrawP.intro tysOk mixed false ?_
    have hmin := min_eq col (lastI t)
    refine ⟨_, (last_fn t ht).callT _ _, ?_⟩
    refine ⟨_, rising_callT t _ _, ?_⟩
    refine ⟨_, (last_fn t ht).callT _ _, ?_⟩
    refine ⟨_, nthR_callT t ht _ n (lastI t) ?_ (by have := of_decide_eq_false h; omega) hn2 (tB t), ?_⟩
    · have : lastI t < 512 := by unfold lastI; omega
      split <;> omega
    refine ⟨by kernel_rfl, ?_⟩
    rw [← hmin]
    rfl
end Go.Cx
namespace Go.Cx
open Go.Proofs
set_option maxRecDepth 100000
set_option maxHeartbeats 10000000
def envN (a : List Int) (i : Int) : List V := .psl 1 (colsV a) .any :: .psl 1 (colsV a) .any :: .undef :: .undef :: .bool false :: .int .i64 i :: List.replicate 20 .undef
theorem ints_fn (a : List Int) (ha : a.length < 1000000) : Fn Tryd.prog 21 [.psl 1 (colsV a) .any, .psl 1 (colsV a) .any] (.bool true) := by
  have hl := colsV_len a
  refine Fn.of_body tysOk md0 Tryd.func21 rfl rfl rfl rfl ?_
  refine BCase.no (by simp) ?_
  refine LoopP.inv (md := md0) (fun k env h => ∃ (i : Nat), k = a.length - i ∧ i ≤ a.length ∧ env = envN a i ∧ h = []) a.length ⟨envN a 0, _, .same (by repeat (first | exact trivial | refine ⟨.inl rfl, ?_⟩ | refine ⟨.inr rfl, ?_⟩)) rfl, 0, rfl, Nat.zero_le _, rfl, rfl⟩ ?_
  rintro k _ _ ⟨i, rfl, hi, rfl, rfl⟩
  refine ⟨fun h => ?_, fun h => ?_⟩
  · have hi' : i < a.length := by have := of_decide_eq_true h; omega
    obtain ⟨c, hc⟩ : ∃ c, a[i]? = some c := ⟨_, List.getElem?_eq_getElem hi'⟩
    refine DrawP.intro tysOk mixed false ?_
    refine ⟨_, ⟨by omega, colsV_get hc⟩, ?_⟩
    refine ⟨_, ⟨by omega, colsV_get hc⟩, ?_⟩
    refine ⟨by kernel_rfl, ?_⟩
    refine BCase.no (by simp) ?_
    refine ⟨a.length - (i + 1), envN a (i + 1 : Nat), [], by omega, .same ?_ rfl, i + 1, rfl, hi', rfl, rfl⟩
    refine ⟨.inl rfl, .inl rfl, .inl rfl, .inl rfl, .inl rfl, .inl ?_, ?_⟩
    · exact congrArg (V.int .i64) (wrS i 1 (by omega))
    · repeat (first | exact trivial | refine ⟨.inl rfl, ?_⟩ | refine ⟨.inr rfl, ?_⟩)
  · rfl
/-! ### What Set and Clear come to -/
theorem foldS_bit (cols : Int) (hc : cols ≤ 512) (c : Nat) : ∀ (l : List Int) (w : Nat → Nat), bit (l.foldl (stepS cols) w) c = (bit w c || (decide ((c : Int) ∈ l) && decide ((c : Int) < cols)))
  | [], w => by simp
  | x :: l, w => by
    rw [List.foldl_cons, foldS_bit cols hc c l]
    unfold stepS
    by_cases hx : 0 ≤ x ∧ x < cols
    · rw [if_pos hx, sett_bit]
      by_cases hxc : c = x.toNat
      · have : (c : Int) = x := by omega
        have h2 : (c : Int) < cols := by omega
        simp [this.symm, h2]
      · have : ¬ (c : Int) = x := by omega
        simp [hxc, this]
    · rw [if_neg hx]
      by_cases hxc : (c : Int) = x
      · have : ¬ (c : Int) < cols := by omega
        simp [this]
      · simp [hxc]
theorem foldC_bit (cols : Int) (hc : cols ≤ 512) (c : Nat) : ∀ (l : List Int) (w : Nat → Nat), bit (l.foldl (stepC cols) w) c = (bit w c && !(decide ((c : Int) ∈ l) && decide ((c : Int) < cols)))
  | [], w => by simp
  | x :: l, w => by
    rw [List.foldl_cons, foldC_bit cols hc c l]
    unfold stepC
    by_cases hx : 0 ≤ x ∧ x < cols
    · rw [if_pos hx, clr_bit]
      by_cases hxc : c = x.toNat
      · have : (c : Int) = x := by omega
        have h2 : (c : Int) < cols := by omega
        simp [this.symm, h2]
      · have : ¬ (c : Int) = x := by omega
        simp [hxc, this]
    · rw [if_neg hx]
      by_cases hxc : (c : Int) = x
      · have : ¬ (c : Int) < cols := by omega
        simp [this]
      · simp [hxc]
theorem put_has (t : Tb) (ht : t.good) (b : Int) (l : List Int) (c : Int) : (t.put b l).has c = (t.has c || (decide (c ∈ l) && t.there c)) := by
  unfold Tb.has
  have e : (t.put b l).there c = t.there c := rfl
  rw [e]
  cases h : t.there c with
  | false => simp
  | true =>
    unfold Tb.there at h
    simp only [Bool.and_eq_true, decide_eq_true_eq] at h
    have := foldS_bit t.cols ht.ok.c1 c.toNat l t.w
    show (true && bit (l.foldl (stepS t.cols) t.w) c.toNat) = _
    rw [this]
    have e1 : ((c.toNat : Nat) : Int) = c := by omega
    rw [e1]
    simp [h.2]
theorem clear_has (t : Tb) (ht : t.good) (b : Int) (l : List Int) (c : Int) : (t.clear b l).has c = (t.has c && !(decide (c ∈ l) && t.there c)) := by
  unfold Tb.has
  have e : (t.clear b l).there c = t.there c := rfl
  rw [e]
  cases h : t.there c with
  | false => simp
  | true =>
    unfold Tb.there at h
    simp only [Bool.and_eq_true, decide_eq_true_eq] at h
    have := foldC_bit t.cols ht.ok.c1 c.toNat l t.w
    show (true && bit (l.foldl (stepC t.cols) t.w) c.toNat) = _
    rw [this]
    have e1 : ((c.toNat : Nat) : Int) = c := by omega
    rw [e1]
    simp [h.2]
theorem jn2_zero {x : Int} (h : x = 0 ∨ x = 1) : jn2 x 0 = x := by unfold jn2; rcases h with rfl | rfl <;> simp
theorem put_clear (t : Tb) (ht : t.good) (b : Int) (l : List Int) : ((t.put b l).clear 0 l).lab = (t.clear b l).lab ∧ ∀ i, i < 8 → ((t.put b l).clear 0 l).w i = (t.clear b l).w i := by
  refine ⟨jn2_zero (jn01 _ _), ?_⟩
  refine words_ext (clear_good (put_good ht b l) 0 l).ok.w (clear_good ht b l).ok.w fun c _ => ?_
  show bit (l.foldl (stepC t.cols) (l.foldl (stepS t.cols) t.w)) c = bit (l.foldl (stepC t.cols) t.w) c
  rw [foldC_bit _ ht.ok.c1, foldC_bit _ ht.ok.c1, foldS_bit _ ht.ok.c1]
  cases decide ((c : Int) ∈ l) && decide ((c : Int) < t.cols) <;> simp
end Go.Cx
namespace Go.Cx
open Go.Proofs
set_option maxRecDepth 100000
set_option maxHeartbeats 1000000
/-! ### Lists of columns in order -/
theorem wordL_range (w : Nat → Nat) (i : Nat) : (wordL (w i)).map (fun b => ((i * 64 + b : Nat) : Int)) = ((List.range' (i * 64) 64).filter (bit w)).map fun c : Nat => (c : Int) := by
  unfold wordL
  rw [List.range'_eq_map_range, List.filter_map, List.map_map]
  have : (List.range 64).filter (w i).testBit = (List.range 64).filter (bit w ∘ fun x => i * 64 + x) := by
    apply List.filter_congr
    intro b hb
    have hb := List.mem_range.1 hb
    show _ = bit w (i * 64 + b)
    unfold bit
    rw [show (i * 64 + b) / 64 = i by omega, show (i * 64 + b) % 64 = b by omega]
  rw [this]
  rfl
theorem stopsN_range (w : Nat → Nat) : ∀ (n i : Nat), stopsN w i n = ((List.range' (i * 64) (n * 64)).filter (bit w)).map fun c : Nat => (c : Int)
  | 0, i => by simp [stopsN]
  | n + 1, i => by
    rw [stopsN, wordL_range, stopsN_range w n (i + 1), show (n + 1) * 64 = 64 + n * 64 by omega, ← List.range'_append_1, List.filter_append, List.map_append, show i * 64 + 64 = (i + 1) * 64 by omega]
/-- The columns where a tab stops, as numbers. -/
def Tb.sn (t : Tb) : List Nat := (List.range t.n).filter (bit t.w)
theorem stops_sn (t : Tb) (ht : t.good) : t.stops = t.sn.map fun c : Nat => (c : Int) := by
  have h1 := ht.ok.c1
  have h0 := ht.ok.c0
  unfold Tb.stops Tb.sn
  rw [stopsN_range]
  congr 1
  have e : List.range' (0 * 64) (8 * 64) = List.range t.n ++ List.range' t.n (512 - t.n) := by
    have hn : t.n ≤ 512 := by unfold Tb.n; omega
    rw [List.range_eq_range', show 8 * 64 = t.n + (512 - t.n) by omega, ← List.range'_append_1]
    simp
  rw [e, List.filter_append]
  have : (List.range' t.n (512 - t.n)).filter (bit t.w) = [] := by
    rw [List.filter_eq_nil_iff]
    intro c hc
    have := (List.mem_range'_1.1 hc).1
    simp [ht.clean c this]
  rw [this, List.append_nil]
theorem downL_sn (t : Tb) (ht : t.good) : ∀ k : Nat, k ≤ t.n → downL t k = (((List.range k).filter (bit t.w)).map fun c : Nat => (c : Int)).reverse
  | 0, _ => rfl
  | k + 1, hk => by
    rw [downL, downL_sn t ht k (by omega), has_nat t ht.ok, List.range_succ, List.filter_append, List.map_append, List.reverse_append]
    have : decide (k < t.n) = true := by simp; omega
    rw [this, Bool.true_and]
    cases h : bit t.w k <;> simp [h]
theorem nthL_getD (o : Int) : ∀ (l : List Int) (n : Nat), nthL l ((n + 1 : Nat) : Int) o = l.getD n o
  | [], n => by simp [nthL]
  | c :: l, 0 => by simp [nthL]
  | c :: l, n + 1 => by
    rw [nthL, if_neg (by omega), show ((n + 1 + 1 : Nat) : Int) - 1 = ((n + 1 : Nat) : Int) by omega, nthL_getD o l n]
    simp
theorem nthL_one (l : List Int) (o : Int) : nthL l 1 o = l.getD 0 o := nthL_getD o l 0
theorem above_cons (col : Int) (c : Int) : ∀ (S l : List Int), S.Pairwise (· < ·) → above col S = c :: l → above c S = l
  | [], l, _, h => by cases h
  | x :: S, l, hp, h => by
    obtain ⟨h1, h2⟩ := List.pairwise_cons.1 hp
    have all : ∀ k, k ≤ x → above k S = S := fun k hk => by
      unfold above
      rw [List.filter_eq_self]
      intro y hy
      have := h1 y hy
      simp; omega
    unfold above at h ⊢
    by_cases hx : x > col
    · rw [List.filter_cons_of_pos (by simpa using hx)] at h
      injection h with e1 e2
      subst e1
      rw [List.filter_cons_of_neg (by simp)]
      have a1 := all x (Int.le_refl _)
      have a2 := all col (by omega)
      unfold above at a1 a2
      rw [a1, ← e2, a2]
    · rw [List.filter_cons_of_neg (by simpa using hx)] at h
      have hc : c ∈ S.filter fun c => decide (c > col) := by rw [h]; simp
      have hcc := (List.mem_filter.1 hc).2
      simp only [decide_eq_true_eq] at hcc
      rw [List.filter_cons_of_neg (by simp; omega)]
      exact above_cons col c S l h2 h
theorem above_drop {S : List Int} (hp : S.Pairwise (· < ·)) {c : Int} : ∀ (i : Nat) (col : Int), (above col S)[i]? = some c → above c S = (above col S).drop (i + 1)
  | 0, col, h => by
    cases hl : above col S with
    | nil => rw [hl] at h; cases h
    | cons x l =>
      rw [hl] at h
      simp only [List.getElem?_cons_zero, Option.some.injEq] at h
      subst h
      rw [above_cons col x S l hp hl]; rfl
  | i + 1, col, h => by
    cases hl : above col S with
    | nil => rw [hl] at h; cases h
    | cons x l =>
      rw [hl] at h
      simp only [List.getElem?_cons_succ] at h
      have hx := above_cons col x S l hp hl
      rw [← hx] at h
      rw [above_drop hp i x h, hx]; rfl
theorem downL_cons (t : Tb) (c : Int) (l : List Int) : ∀ k : Nat, downL t k = c :: l → 0 ≤ c ∧ c < k ∧ downL t c.toNat = l
  | 0, h => by cases h
  | k + 1, h => by
    rw [downL] at h
    split at h
    · injection h with e1 e2
      subst e1
      rw [Int.toNat_natCast]
      exact ⟨by omega, by omega, e2⟩
    · obtain ⟨h1, h2, h3⟩ := downL_cons t c l k h
      exact ⟨h1, by omega, h3⟩
theorem downL_drop (t : Tb) {c : Int} : ∀ (i k : Nat), (downL t k)[i]? = some c → 0 ≤ c ∧ c < k ∧ downL t c.toNat = (downL t k).drop (i + 1)
  | 0, k, h => by
    cases hl : downL t k with
    | nil => rw [hl] at h; cases h
    | cons x l =>
      rw [hl] at h
      simp only [List.getElem?_cons_zero, Option.some.injEq] at h
      subst h
      obtain ⟨h1, h2, h3⟩ := downL_cons t x l k hl
      exact ⟨h1, h2, h3⟩
  | i + 1, k, h => by
    cases hl : downL t k with
    | nil => rw [hl] at h; cases h
    | cons x l =>
      rw [hl] at h
      simp only [List.getElem?_cons_succ] at h
      obtain ⟨h1, h2, h3⟩ := downL_cons t x l k hl
      rw [← h3] at h
      obtain ⟨g1, g2, g3⟩ := downL_drop t i _ h
      exact ⟨g1, by omega, by rw [g3, h3]; rfl⟩
theorem stops_facts (t : Tb) (ht : t.good) : t.stops.Pairwise (· < ·) ∧ (∀ c ∈ t.stops, 0 ≤ c ∧ c < t.cols ∧ t.has c = true) ∧ downL t t.n = t.stops.reverse := by
  rw [stops_sn t ht]
  have h0 := ht.ok.c0
  refine ⟨?_, fun c hc => ?_, ?_⟩
  · rw [List.pairwise_map]
    have : (List.range t.n).Pairwise (· < ·) := List.pairwise_lt_range
    exact (this.filter _).imp (fun h => by omega)
  · obtain ⟨d, hd, rfl⟩ := List.mem_map.1 hc
    obtain ⟨h1, h2⟩ := List.mem_filter.1 hd
    have h1 := List.mem_range.1 h1
    refine ⟨by omega, by unfold Tb.n at h1; omega, ?_⟩
    rw [has_nat t ht.ok, h2]; simp [h1]
  · exact downL_sn t ht t.n (Nat.le_refl _)
theorem above_neg {S : List Int} (h : ∀ c ∈ S, 0 ≤ c) : above (-1) S = S := by
  unfold above
  rw [List.filter_eq_self]
  intro c hc
  have := h c hc
  simp; omega
theorem lastI_eq (t : Tb) (ht : t.ok) : lastI t = ((t.n - 1 : Nat) : Int) := by
  have := ht.c0
  unfold lastI Tb.n; omega
theorem next1 (t : Tb) (c : Int) : t.next c 1 = (above (min c (lastI t)) t.stops).getD 0 (lastI t) := by
  unfold Tb.next
  rw [if_neg (by omega), nthL_one]
theorem back1 (t : Tb) (c : Int) : t.back c 1 = (downL t (downN t c)).getD 0 0 := by
  unfold Tb.back
  rw [if_neg (by omega), nthL_one]
/-- Where it stands behind i tabs from ahead of all. -/
def atI (t : Tb) (i : Nat) : Int := match i with | 0 => -1 | i + 1 => t.stops.getD i 0
theorem next_at (t : Tb) (ht : t.good) (i : Nat) (hi : i ≤ t.stops.length) : t.next (atI t i) 1 = t.stops.getD i (lastI t) := by
  obtain ⟨h1, h2, h3⟩ := stops_facts t ht
  have hneg := above_neg (fun c hc => (h2 c hc).1)
  have hl0 : 0 ≤ lastI t := by unfold lastI; omega
  rw [next1]
  cases i with
  | zero =>
    show (above (min (-1) (lastI t)) t.stops).getD 0 (lastI t) = _
    rw [show min (-1) (lastI t) = -1 by omega, hneg]
  | succ i =>
    have hg : t.stops[i]? = some (atI t (i + 1)) := by
      show t.stops[i]? = some (t.stops.getD i 0)
      rw [List.getD_eq_getElem?_getD, List.getElem?_eq_getElem (by omega)]; rfl
    have hm := h2 _ (List.mem_of_getElem? hg)
    have e : min (atI t (i + 1)) (lastI t) = atI t (i + 1) := by unfold lastI; omega
    have hd := above_drop h1 i (-1) (by rw [hneg]; exact hg)
    rw [e, hd, hneg]
    simp
theorem next_last (t : Tb) (ht : t.good) : t.next (lastI t) 1 = lastI t := by
  obtain ⟨h1, h2, h3⟩ := stops_facts t ht
  rw [next1]
  have : above (min (lastI t) (lastI t)) t.stops = [] := by
    unfold above
    rw [List.filter_eq_nil_iff]
    intro c hc
    have := h2 c hc
    unfold lastI
    simp; omega
  rw [this]; rfl
/-- Where it stands behind j tabs back from behind all. -/
def bkI (t : Tb) (j : Nat) : Int := match j with | 0 => t.cols | j + 1 => (downL t t.n).getD j 0
theorem back_at (t : Tb) (ht : t.good) (j : Nat) (hj : j ≤ t.stops.length) : t.back (bkI t j) 1 = (downL t t.n).getD j 0 := by
  obtain ⟨h1, h2, h3⟩ := stops_facts t ht
  have hc0 := ht.ok.c0
  rw [back1]
  cases j with
  | zero =>
    have : downN t (bkI t 0) = t.n := by show downN t t.cols = _; unfold downN Tb.n; omega
    rw [this]
  | succ j =>
    have hlen : (downL t t.n).length = t.stops.length := by rw [h3, List.length_reverse]
    have hg : (downL t t.n)[j]? = some (bkI t (j + 1)) := by
      show _ = some ((downL t t.n).getD j 0)
      rw [List.getD_eq_getElem?_getD, List.getElem?_eq_getElem (by omega)]; rfl
    obtain ⟨g1, g2, g3⟩ := downL_drop t j t.n hg
    have : downN t (bkI t (j + 1)) = (bkI t (j + 1)).toNat := by unfold downN; unfold Tb.n at g2; omega
    rw [this, g3]
    simp
/-- Up from column 0, and down from the last. -/
def upI (t : Tb) (k : Nat) : Int := match k with | 0 => 0 | k + 1 => (above 0 t.stops).getD k (lastI t)
def dnI (t : Tb) (k : Nat) : Int := match k with | 0 => lastI t | k + 1 => (downL t (t.n - 1)).getD k 0
theorem up_step (t : Tb) (ht : t.good) (k : Nat) : t.next (upI t k) 1 = upI t (k + 1) := by
  obtain ⟨h1, h2, h3⟩ := stops_facts t ht
  have hl0 : 0 ≤ lastI t := by unfold lastI; omega
  cases k with
  | zero =>
    rw [next1]
    show (above (min 0 (lastI t)) t.stops).getD 0 (lastI t) = (above 0 t.stops).getD 0 (lastI t)
    rw [show min 0 (lastI t) = 0 by omega]
  | succ k =>
    show t.next ((above 0 t.stops).getD k (lastI t)) 1 = (above 0 t.stops).getD (k + 1) (lastI t)
    rcases Nat.lt_or_ge k (above 0 t.stops).length with hk | hk
    · have hg : (above 0 t.stops)[k]? = some ((above 0 t.stops).getD k (lastI t)) := by
        rw [List.getD_eq_getElem?_getD, List.getElem?_eq_getElem hk]; rfl
      generalize (above 0 t.stops).getD k (lastI t) = c at hg
      have hm := h2 _ (List.mem_filter.1 (List.mem_of_getElem? hg)).1
      have e : min c (lastI t) = c := by unfold lastI; omega
      rw [next1, e, above_drop h1 k 0 hg]
      simp
    · rw [List.getD_eq_getElem?_getD, List.getElem?_eq_none hk, List.getD_eq_getElem?_getD, List.getElem?_eq_none (by omega)]
      exact next_last t ht
theorem up_all (t : Tb) (ht : t.good) (k : Nat) : t.next 0 k = upI t k := by
  have hl0 : 0 ≤ lastI t := by unfold lastI; omega
  unfold Tb.next
  cases k with
  | zero => rw [if_pos (by omega)]; show _ = (0 : Int); omega
  | succ k =>
    rw [if_neg (by omega), nthL_getD, show min 0 (lastI t) = 0 by omega]; rfl
theorem dn_last (t : Tb) (ht : t.good) : downN t (lastI t) = t.n - 1 := by
  have := ht.ok.c0
  unfold downN lastI Tb.n; omega
theorem dn_step (t : Tb) (ht : t.good) (k : Nat) : t.back (dnI t k) 1 = dnI t (k + 1) := by
  have hc0 := ht.ok.c0
  cases k with
  | zero =>
    rw [back1]
    show (downL t (downN t (lastI t))).getD 0 0 = (downL t (t.n - 1)).getD 0 0
    rw [dn_last t ht]
  | succ k =>
    show t.back ((downL t (t.n - 1)).getD k 0) 1 = (downL t (t.n - 1)).getD (k + 1) 0
    rw [back1]
    rcases Nat.lt_or_ge k (downL t (t.n - 1)).length with hk | hk
    · have hg : (downL t (t.n - 1))[k]? = some ((downL t (t.n - 1)).getD k 0) := by
        rw [List.getD_eq_getElem?_getD, List.getElem?_eq_getElem hk]; rfl
      generalize (downL t (t.n - 1)).getD k 0 = c at hg
      obtain ⟨g1, g2, g3⟩ := downL_drop t k _ hg
      have : downN t c = c.toNat := by unfold downN; unfold Tb.n at g2; omega
      rw [this, g3]
      simp
    · rw [List.getD_eq_getElem?_getD (i := k), List.getElem?_eq_none hk, List.getD_eq_getElem?_getD (i := k + 1), List.getElem?_eq_none (by omega)]
      have : downN t ((none : Option Int).getD 0) = 0 := by unfold downN; simp; omega
      rw [this]; rfl
theorem dn_all (t : Tb) (ht : t.good) (k : Nat) : t.back (lastI t) k = dnI t k := by
  have hl0 : 0 ≤ lastI t := by unfold lastI; omega
  unfold Tb.back
  cases k with
  | zero => rw [if_pos (by omega)]; show _ = lastI t; omega
  | succ k => rw [if_neg (by omega), nthL_getD, dn_last t ht]; rfl
end Go.Cx
namespace Go.Cx
open Go.Proofs
set_option maxRecDepth 100000
set_option maxHeartbeats 10000000
theorem pair_lt {S : List Int} (hp : S.Pairwise (· < ·)) {j : Nat} {d c : Int} (hd : S[j]? = some d) (hc : S[j + 1]? = some c) : d < c := by
  obtain ⟨h1, e1⟩ := List.getElem?_eq_some_iff.1 hd
  obtain ⟨h2, e2⟩ := List.getElem?_eq_some_iff.1 hc
  have := List.pairwise_iff_getElem.1 hp j (j + 1) h1 h2 (by omega)
  rw [e1, e2] at this
  exact this
def envW0 (n : Int) (l : List Ac) (m i : Int) : List V := .int .u16 n :: .psl 4 (actsV l) .any :: .int .u8 m :: .undef :: .undef :: .undef :: .bool false :: .ptr 0 0 :: .int .i64 i :: List.replicate 149 .undef
def envW1 (n : Int) (l : List Ac) (m : Int) (t : Tb) (c i : Int) : List V := .int .u16 n :: .psl 4 (actsV l) .any :: .int .u8 m :: .undef :: .undef :: .undef :: .bool false :: .ptr 0 0 :: .undef :: .psl 1 (colsV t.stops) .any :: .int .i64 (lastI t) :: .int .i64 c :: .int .i64 i :: List.replicate 145 .undef
def envW2 (n : Int) (l : List Ac) (m : Int) (t : Tb) (_ c i : Int) : List V := .int .u16 n :: .psl 4 (actsV l) .any :: .int .u8 m :: .undef :: .undef :: .undef :: .bool false :: .ptr 0 0 :: .undef :: .psl 1 (colsV t.stops) .any :: .int .i64 (lastI t) :: .undef :: .undef :: .int .i64 c :: .int .i64 i :: List.replicate 143 .undef
def envW3 (n : Int) (l : List Ac) (m : Int) (t : Tb) (a b i : Int) : List V := .int .u16 n :: .psl 4 (actsV l) .any :: .int .u8 m :: .undef :: .undef :: .undef :: .bool false :: .ptr 0 0 :: .undef :: .psl 1 (colsV t.stops) .any :: .int .i64 (lastI t) :: .undef :: .undef :: .undef :: .undef :: .int .i64 a :: .int .i64 b :: .int .i64 i :: List.replicate 140 .undef
theorem walks_sem (n : Int) (hn : 0 ≤ n ∧ n < 65536) (l : List Ac) (hl : ∀ a ∈ l, a.ok) (m : Int) (hm : 0 ≤ m ∧ m < 256) :
    Sem Tryd.prog 3 [.int .u16 n, .psl 4 (actsV l) .any, .int .u8 m] [] fun v _ => v = .bool true := by
  have hal := actsV_len l
  have n1 := rem600 n hn
  obtain ⟨mm, hmm, hmm2⟩ : ∃ mm : Nat, IntKind.i64.wrap (m.tmod 20) = (mm : Int) ∧ mm < 20 := ⟨(m % 20).toNat, by rw [Int.tmod_eq_emod_of_nonneg hm.1, wr64] <;> omega, by omega⟩
  refine Sem.of_body tysOk md0 Tryd.func3 rfl rfl ?_
  refine works.sem _ ?_
  refine BCase.no rfl ?_
  refine (new_fn _ 0).sem _ ?_
  refine LoopP.inv (md := md0) (fun k env h => ∃ (i : Nat) (t : Tb), k = l.length - i ∧ i ≤ l.length ∧ i ≤ 40 ∧ t.good ∧ env = envW0 n l m i ∧ h = [tB t]) l.length ⟨envW0 n l m 0, _, .same (by repeat (first | exact trivial | refine ⟨.inl rfl, ?_⟩ | refine ⟨.inr rfl, ?_⟩)) rfl, 0, _, rfl, Nat.zero_le _, Nat.zero_le _, resize_good (zero_good 0) _, rfl, rfl⟩ ?_
  rintro k _ _ ⟨i, t, rfl, hil, hi40, ht, rfl, rfl⟩
  have hf := stops_facts t ht
  have hsl : t.stops.length ≤ 64 * 8 := stopsN_len t.w 8 0
  have hcl := colsV_len t.stops
  have hl0 : 0 ≤ lastI t := by unfold lastI; omega
  refine ⟨fun h => ?_, fun h => ?_⟩
  · have hi' : i < l.length := by have := of_decide_eq_true h; omega
    repeat (first | refine BCase.yes rfl ?_ | refine BCase.no rfl ?_)
    refine ⟨fun h40 => ?_, fun h40 => ?_⟩
    · have h40' : i < 40 := by have := of_decide_eq_true h40; omega
      obtain ⟨a, ha⟩ : ∃ a, l[i]? = some a := ⟨_, List.getElem?_eq_getElem hi'⟩
      have hao := hl a (List.mem_of_getElem? ha)
      refine DrawP.intro tysOk mixed false ?_
      refine ⟨a.cs, ⟨by omega, actsV_get ha⟩, ?_⟩
      refine ⟨_, (does_fn a hao t ht.ok).callT _ _, ?_⟩
      refine ⟨by kernel_rfl, ?_⟩
      refine ⟨l.length - (i + 1), envW0 n l m (i + 1 : Nat), [tB (a.does t)], by omega, .same ?_ rfl, i + 1, a.does t, rfl, hi', h40', does_good a ht, rfl, rfl⟩
      refine ⟨.inl rfl, .inl rfl, .inl rfl, .inl rfl, .inl rfl, .inl rfl, .inl rfl, .inl rfl, .inl ?_, ?_⟩
      · exact congrArg (V.int .i64) (wrs i 1 (by omega))
      · repeat (first | exact trivial | refine ⟨.inl rfl, ?_⟩ | refine ⟨.inr rfl, ?_⟩)
    · clear h h40 hil hi40 hi' hal
      refine (list_fn t ht.ok).sem _ ?_
      refine (cols_fn t).sem _ ?_
      have hlast : (if IntKind.i64.wrap (t.cols - 1) > 0 then IntKind.i64.wrap (t.cols - 1) else 0) = lastI t := by
        have := ht.ok.c0
        have := ht.ok.c1
        rw [wr64 (n := t.cols - 1) (by omega) (by omega)]
        unfold lastI
        split <;> omega
      refine LoopP.inv (md := md0) (fun k env h => ∃ (i : Nat), k = t.stops.length - i ∧ i ≤ t.stops.length ∧ env = envW1 n l m t (atI t i) i ∧ h = [tB t]) t.stops.length ⟨envW1 n l m t (-1) 0, _, .same ?_ rfl, 0, rfl, Nat.zero_le _, rfl, rfl⟩ ?_
      · unfold envW1
        rw [← hlast]
        repeat (first | exact trivial | refine ⟨.inl rfl, ?_⟩ | refine ⟨.inr rfl, ?_⟩)
      rintro k _ _ ⟨i, rfl, hi, rfl, rfl⟩
      refine ⟨fun hh => ?_, fun hh => ?_⟩
      · have hi' : i < t.stops.length := by have := of_decide_eq_true hh; omega
        refine (next_fn t ht.ok (atI t i) 1 (by omega)).sem _ ?_
        rw [next_at t ht i hi]
        obtain ⟨c, hc⟩ : ∃ c, t.stops[i]? = some c := ⟨_, List.getElem?_eq_getElem hi'⟩
        have hg : t.stops.getD i (lastI t) = c := by rw [List.getD_eq_getElem?_getD, hc]; rfl
        have hat : atI t (i + 1) = c := by show t.stops.getD i 0 = c; rw [List.getD_eq_getElem?_getD, hc]; rfl
        obtain ⟨m0, m1, m2⟩ := hf.2.1 c (List.mem_of_getElem? hc)
        rw [hg]
        refine DrawP.intro tysOk mixed false ?_
        refine ⟨_, ⟨by omega, colsV_get hc⟩, ?_⟩
        refine BCase.no (by simp) ?_
        repeat (first | refine BCase.yes rfl ?_ | refine BCase.no rfl ?_)
        refine ⟨_, (has_fn t ht.ok c).callT _ _, ?_⟩
        repeat (first | refine BCase.yes rfl ?_ | refine BCase.no rfl ?_)
        refine BCase.no (by rw [m2]; rfl) ?_
        repeat (first | refine BCase.yes rfl ?_ | refine BCase.no rfl ?_)
        refine ⟨fun h0 => ?_, fun h0 => ?_⟩
        · repeat (first | refine BCase.yes rfl ?_ | refine BCase.no rfl ?_)
          have h0' : 0 < i := by have := of_decide_eq_true h0; omega
          refine ⟨_, ⟨by omega, colsV_get hc⟩, ?_⟩
          repeat (first | refine BCase.yes rfl ?_ | refine BCase.no rfl ?_)
          obtain ⟨j, rfl⟩ : ∃ j, i = j + 1 := ⟨i - 1, by omega⟩
          obtain ⟨d, hd⟩ : ∃ d, t.stops[j]? = some d := ⟨_, List.getElem?_eq_getElem (by omega)⟩
          have hcd : d < c := pair_lt hf.1 hd hc
          have hw : IntKind.i64.wrap (((j + 1 : Nat) : Int) - 1) = (j : Int) := by rw [wr64 (by omega) (by omega)]; omega
          refine ⟨_, ⟨by rw [hw]; omega, by rw [hw]; exact colsV_get hd⟩, ?_⟩
          repeat (first | refine BCase.yes rfl ?_ | refine BCase.no rfl ?_)
          refine BCase.no (decide_eq_false (by omega)) ?_
          repeat (first | refine BCase.yes rfl ?_ | refine BCase.no rfl ?_)
          refine ⟨_, (cols_fn t).callT _ _, ?_⟩
          repeat (first | refine BCase.yes rfl ?_ | refine BCase.no rfl ?_)
          refine ⟨by kernel_rfl, ?_⟩
          refine BCase.no (decide_eq_false (by omega)) ?_
          refine ⟨t.stops.length - (j + 1 + 1), envW1 n l m t c (j + 1 + 1 : Nat), [tB t], by omega, .same ?_ rfl, j + 1 + 1, rfl, hi', by rw [hat], rfl⟩
          refine ⟨.inl rfl, .inl rfl, .inl rfl, .inl rfl, .inl rfl, .inl rfl, .inl rfl, .inl rfl, .inr rfl, .inl rfl, .inl rfl, .inl rfl, .inl ?_, ?_⟩
          · exact congrArg (V.int .i64) (wrs (j + 1) 1 (by omega))
          · repeat (first | exact trivial | refine ⟨.inl rfl, ?_⟩ | refine ⟨.inr rfl, ?_⟩)
        · repeat (first | refine BCase.yes rfl ?_ | refine BCase.no rfl ?_)
          refine ⟨_, (cols_fn t).callT _ _, ?_⟩
          repeat (first | refine BCase.yes rfl ?_ | refine BCase.no rfl ?_)
          refine ⟨by kernel_rfl, ?_⟩
          refine BCase.no (decide_eq_false (by omega)) ?_
          refine ⟨t.stops.length - (i + 1), envW1 n l m t c (i + 1 : Nat), [tB t], by omega, .same ?_ rfl, i + 1, rfl, hi', by rw [hat], rfl⟩
          refine ⟨.inl rfl, .inl rfl, .inl rfl, .inl rfl, .inl rfl, .inl rfl, .inl rfl, .inl rfl, .inr rfl, .inl rfl, .inl rfl, .inl rfl, .inl ?_, ?_⟩
          · exact congrArg (V.int .i64) (wrs (i) 1 (by omega))
          · repeat (first | exact trivial | refine ⟨.inl rfl, ?_⟩ | refine ⟨.inr rfl, ?_⟩)
      · have hi' : i = t.stops.length := by have := of_decide_eq_false hh; omega
        subst hi'
        clear hh hi
        have hnl := next_last t ht
        have hna := next_at t ht _ (Nat.le_refl _)
        rw [List.getD_eq_getElem?_getD, List.getElem?_eq_none (Nat.le_refl _)] at hna
        generalize atI t t.stops.length = at0 at hna
        refine (next_fn t ht.ok (lastI t) 1 (by omega)).sem _ ?_
        rw [hnl]
        refine BCase.no (by simp) ?_
        repeat (first | refine BCase.yes rfl ?_ | refine BCase.no rfl ?_)
        refine (next_fn t ht.ok at0 1 (by omega)).sem _ ?_
        rw [hna]
        repeat (first | refine BCase.yes rfl ?_ | refine BCase.no rfl ?_)
        refine BCase.no (by simp) ?_
        repeat (first | refine BCase.yes rfl ?_ | refine BCase.no rfl ?_)
        refine (cols_fn t).sem _ ?_
        have hlen : (downL t t.n).length = t.stops.length := by rw [hf.2.2, List.length_reverse]
        refine LoopP.inv (md := md0) (fun k env h => k ≤ t.stops.length ∧ env = envW2 n l m t at0 (bkI t (t.stops.length - k)) ((k : Int) - 1) ∧ h = [tB t]) t.stops.length ⟨envW2 n l m t at0 t.cols ((t.stops.length : Int) - 1), _, .same ?_ rfl, Nat.le_refl _, by rw [Nat.sub_self]; rfl, rfl⟩ ?_
        · have hw : IntKind.i64.wrap (((colsV t.stops).length : Int) - 1) = (t.stops.length : Int) - 1 := by rw [colsV_len, wr64 (by omega) (by omega)]
          unfold envW2
          rw [← hw]
          repeat (first | exact trivial | refine ⟨.inl rfl, ?_⟩ | refine ⟨.inr rfl, ?_⟩)
        rintro k _ _ ⟨hk, rfl, rfl⟩
        refine ⟨fun hh => ?_, fun hh => ?_⟩
        · obtain ⟨q, rfl⟩ : ∃ q, k = q + 1 := ⟨k - 1, by have := of_decide_eq_true hh; omega⟩
          have hq : ((q + 1 : Nat) : Int) - 1 = (q : Int) := by omega
          rw [hq]
          refine (back_fn t ht.ok (bkI t (t.stops.length - (q + 1))) 1 (by omega)).sem _ ?_
          rw [back_at t ht _ (by omega)]
          obtain ⟨c, hc⟩ : ∃ c, t.stops[q]? = some c := ⟨_, List.getElem?_eq_getElem (by omega)⟩
          have hcd : (downL t t.n).getD (t.stops.length - (q + 1)) 0 = c := by
            rw [hf.2.2, List.getD_eq_getElem?_getD, List.getElem?_reverse (by omega), show t.stops.length - 1 - (t.stops.length - (q + 1)) = q by omega, hc]; rfl
          have hbk : bkI t (t.stops.length - q) = c := by
            rw [show t.stops.length - q = (t.stops.length - (q + 1)) + 1 by omega]; exact hcd
          rw [hcd]
          refine ⟨_, ⟨by omega, colsV_get hc⟩, ?_⟩
          refine BCase.no (by simp) ?_
          refine ⟨q, envW2 n l m t at0 c ((q : Int) - 1), [tB t], by omega, .same ?_ rfl, by omega, by rw [hbk], rfl⟩
          refine ⟨.inl rfl, .inl rfl, .inl rfl, .inl rfl, .inl rfl, .inl rfl, .inl rfl, .inl rfl, .inr rfl, .inl rfl, .inl rfl, .inr rfl, .inr rfl, .inl rfl, .inl ?_, ?_⟩
          · exact congrArg (V.int .i64) (wr64 (n := (q : Int) - 1) (by omega) (by omega)).symm
          · repeat (first | exact trivial | refine ⟨.inl rfl, ?_⟩ | refine ⟨.inr rfl, ?_⟩)
        · have hk0 : k = 0 := by have := of_decide_eq_false hh; omega
          subst hk0
          rw [Nat.sub_zero]
          have hb := back_at t ht _ (Nat.le_refl _)
          rw [List.getD_eq_getElem?_getD, List.getElem?_eq_none (by omega)] at hb
          generalize bkI t t.stops.length = bk at hb
          refine (back_fn t ht.ok bk 1 (by omega)).sem _ ?_
          rw [hb]
          refine BCase.no (by simp) ?_
          refine LoopP.inv (md := md0) (fun k env h => ∃ (i : Nat), k = mm - i ∧ i ≤ mm ∧ env = envW3 n l m t (upI t i) (dnI t i) i ∧ h = [tB t]) mm ⟨envW3 n l m t 0 (lastI t) 0, _, .same ?_ rfl, 0, rfl, Nat.zero_le _, rfl, rfl⟩ ?_
          · repeat (first | exact trivial | refine ⟨.inl rfl, ?_⟩ | refine ⟨.inr rfl, ?_⟩)
          rintro k _ _ ⟨i, rfl, hi, rfl, rfl⟩
          refine ⟨fun hh => ?_, fun hh => ?_⟩
          · have hi' : i < mm := by have := of_decide_eq_true hh; omega
            refine (next_fn t ht.ok (upI t i) 1 (by omega)).sem _ ?_
            rw [up_step t ht]
            refine (back_fn t ht.ok (dnI t i) 1 (by omega)).sem _ ?_
            rw [dn_step t ht]
            refine ⟨mm - (i + 1), envW3 n l m t (upI t (i + 1)) (dnI t (i + 1)) (i + 1 : Nat), [tB t], by omega, .same ?_ rfl, i + 1, rfl, hi', rfl, rfl⟩
            refine ⟨.inl rfl, .inl rfl, .inl rfl, .inl rfl, .inl rfl, .inl rfl, .inl rfl, .inl rfl, .inr rfl, .inl rfl, .inl rfl, .inr rfl, .inr rfl, .inr rfl, .inr rfl, .inl rfl, .inl rfl, .inl ?_, ?_⟩
            · exact congrArg (V.int .i64) (wrs i 1 (by omega))
            · repeat (first | exact trivial | refine ⟨.inl rfl, ?_⟩ | refine ⟨.inr rfl, ?_⟩)
          · have hi' : i = mm := by have := of_decide_eq_false hh; omega
            subst hi'
            refine (next_fn t ht.ok 0 (IntKind.i64.wrap (m.tmod 20)) (by rw [hmm]; omega)).sem _ ?_
            rw [show t.next 0 (IntKind.i64.wrap (m.tmod 20)) = upI t i by rw [hmm]; exact up_all t ht i]
            refine BCase.yes (by simp) ?_
            repeat (first | refine BCase.yes rfl ?_ | refine BCase.no rfl ?_)
            refine (back_fn t ht.ok (lastI t) (IntKind.i64.wrap (m.tmod 20)) (by rw [hmm]; omega)).sem _ ?_
            rw [show t.back (lastI t) (IntKind.i64.wrap (m.tmod 20)) = dnI t i by rw [hmm]; exact dn_all t ht i]
            repeat (first | refine BCase.yes rfl ?_ | refine BCase.no rfl ?_)
            show V.bool _ = _
            simp
  · repeat (first | refine BCase.yes rfl ?_ | refine BCase.no rfl ?_)
    clear h hil hi40 hal
    refine (list_fn t ht.ok).sem _ ?_
    refine (cols_fn t).sem _ ?_
    have hlast : (if IntKind.i64.wrap (t.cols - 1) > 0 then IntKind.i64.wrap (t.cols - 1) else 0) = lastI t := by
      have := ht.ok.c0
      have := ht.ok.c1
      rw [wr64 (n := t.cols - 1) (by omega) (by omega)]
      unfold lastI
      split <;> omega
    refine LoopP.inv (md := md0) (fun k env h => ∃ (i : Nat), k = t.stops.length - i ∧ i ≤ t.stops.length ∧ env = envW1 n l m t (atI t i) i ∧ h = [tB t]) t.stops.length ⟨envW1 n l m t (-1) 0, _, .same ?_ rfl, 0, rfl, Nat.zero_le _, rfl, rfl⟩ ?_
    · unfold envW1
      rw [← hlast]
      repeat (first | exact trivial | refine ⟨.inl rfl, ?_⟩ | refine ⟨.inr rfl, ?_⟩)
    rintro k _ _ ⟨i, rfl, hi, rfl, rfl⟩
    refine ⟨fun hh => ?_, fun hh => ?_⟩
    · have hi' : i < t.stops.length := by have := of_decide_eq_true hh; omega
      refine (next_fn t ht.ok (atI t i) 1 (by omega)).sem _ ?_
      rw [next_at t ht i hi]
      obtain ⟨c, hc⟩ : ∃ c, t.stops[i]? = some c := ⟨_, List.getElem?_eq_getElem hi'⟩
      have hg : t.stops.getD i (lastI t) = c := by rw [List.getD_eq_getElem?_getD, hc]; rfl
      have hat : atI t (i + 1) = c := by show t.stops.getD i 0 = c; rw [List.getD_eq_getElem?_getD, hc]; rfl
      obtain ⟨m0, m1, m2⟩ := hf.2.1 c (List.mem_of_getElem? hc)
      rw [hg]
      refine DrawP.intro tysOk mixed false ?_
      refine ⟨_, ⟨by omega, colsV_get hc⟩, ?_⟩
      refine BCase.no (by simp) ?_
      repeat (first | refine BCase.yes rfl ?_ | refine BCase.no rfl ?_)
      refine ⟨_, (has_fn t ht.ok c).callT _ _, ?_⟩
      repeat (first | refine BCase.yes rfl ?_ | refine BCase.no rfl ?_)
      refine BCase.no (by rw [m2]; rfl) ?_
      repeat (first | refine BCase.yes rfl ?_ | refine BCase.no rfl ?_)
      refine ⟨fun h0 => ?_, fun h0 => ?_⟩
      · repeat (first | refine BCase.yes rfl ?_ | refine BCase.no rfl ?_)
        have h0' : 0 < i := by have := of_decide_eq_true h0; omega
        refine ⟨_, ⟨by omega, colsV_get hc⟩, ?_⟩
        repeat (first | refine BCase.yes rfl ?_ | refine BCase.no rfl ?_)
        obtain ⟨j, rfl⟩ : ∃ j, i = j + 1 := ⟨i - 1, by omega⟩
        obtain ⟨d, hd⟩ : ∃ d, t.stops[j]? = some d := ⟨_, List.getElem?_eq_getElem (by omega)⟩
        have hcd : d < c := pair_lt hf.1 hd hc
        have hw : IntKind.i64.wrap (((j + 1 : Nat) : Int) - 1) = (j : Int) := by rw [wr64 (by omega) (by omega)]; omega
        refine ⟨_, ⟨by rw [hw]; omega, by rw [hw]; exact colsV_get hd⟩, ?_⟩
        repeat (first | refine BCase.yes rfl ?_ | refine BCase.no rfl ?_)
        refine BCase.no (decide_eq_false (by omega)) ?_
        repeat (first | refine BCase.yes rfl ?_ | refine BCase.no rfl ?_)
        refine ⟨_, (cols_fn t).callT _ _, ?_⟩
        repeat (first | refine BCase.yes rfl ?_ | refine BCase.no rfl ?_)
        refine ⟨by kernel_rfl, ?_⟩
        refine BCase.no (decide_eq_false (by omega)) ?_
        refine ⟨t.stops.length - (j + 1 + 1), envW1 n l m t c (j + 1 + 1 : Nat), [tB t], by omega, .same ?_ rfl, j + 1 + 1, rfl, hi', by rw [hat], rfl⟩
        refine ⟨.inl rfl, .inl rfl, .inl rfl, .inl rfl, .inl rfl, .inl rfl, .inl rfl, .inl rfl, .inr rfl, .inl rfl, .inl rfl, .inl rfl, .inl ?_, ?_⟩
        · exact congrArg (V.int .i64) (wrs (j + 1) 1 (by omega))
        · repeat (first | exact trivial | refine ⟨.inl rfl, ?_⟩ | refine ⟨.inr rfl, ?_⟩)
      · repeat (first | refine BCase.yes rfl ?_ | refine BCase.no rfl ?_)
        refine ⟨_, (cols_fn t).callT _ _, ?_⟩
        repeat (first | refine BCase.yes rfl ?_ | refine BCase.no rfl ?_)
        refine ⟨by kernel_rfl, ?_⟩
        refine BCase.no (decide_eq_false (by omega)) ?_
        refine ⟨t.stops.length - (i + 1), envW1 n l m t c (i + 1 : Nat), [tB t], by omega, .same ?_ rfl, i + 1, rfl, hi', by rw [hat], rfl⟩
        refine ⟨.inl rfl, .inl rfl, .inl rfl, .inl rfl, .inl rfl, .inl rfl, .inl rfl, .inl rfl, .inr rfl, .inl rfl, .inl rfl, .inl rfl, .inl ?_, ?_⟩
        · exact congrArg (V.int .i64) (wrs (i) 1 (by omega))
        · repeat (first | exact trivial | refine ⟨.inl rfl, ?_⟩ | refine ⟨.inr rfl, ?_⟩)
    · have hi' : i = t.stops.length := by have := of_decide_eq_false hh; omega
      subst hi'
      clear hh hi
      have hnl := next_last t ht
      have hna := next_at t ht _ (Nat.le_refl _)
      rw [List.getD_eq_getElem?_getD, List.getElem?_eq_none (Nat.le_refl _)] at hna
      generalize atI t t.stops.length = at0 at hna
      refine (next_fn t ht.ok (lastI t) 1 (by omega)).sem _ ?_
      rw [hnl]
      refine BCase.no (by simp) ?_
      repeat (first | refine BCase.yes rfl ?_ | refine BCase.no rfl ?_)
      refine (next_fn t ht.ok at0 1 (by omega)).sem _ ?_
      rw [hna]
      repeat (first | refine BCase.yes rfl ?_ | refine BCase.no rfl ?_)
      refine BCase.no (by simp) ?_
      repeat (first | refine BCase.yes rfl ?_ | refine BCase.no rfl ?_)
      refine (cols_fn t).sem _ ?_
      have hlen : (downL t t.n).length = t.stops.length := by rw [hf.2.2, List.length_reverse]
      refine LoopP.inv (md := md0) (fun k env h => k ≤ t.stops.length ∧ env = envW2 n l m t at0 (bkI t (t.stops.length - k)) ((k : Int) - 1) ∧ h = [tB t]) t.stops.length ⟨envW2 n l m t at0 t.cols ((t.stops.length : Int) - 1), _, .same ?_ rfl, Nat.le_refl _, by rw [Nat.sub_self]; rfl, rfl⟩ ?_
      · have hw : IntKind.i64.wrap (((colsV t.stops).length : Int) - 1) = (t.stops.length : Int) - 1 := by rw [colsV_len, wr64 (by omega) (by omega)]
        unfold envW2
        rw [← hw]
        repeat (first | exact trivial | refine ⟨.inl rfl, ?_⟩ | refine ⟨.inr rfl, ?_⟩)
      rintro k _ _ ⟨hk, rfl, rfl⟩
      refine ⟨fun hh => ?_, fun hh => ?_⟩
      · obtain ⟨q, rfl⟩ : ∃ q, k = q + 1 := ⟨k - 1, by have := of_decide_eq_true hh; omega⟩
        have hq : ((q + 1 : Nat) : Int) - 1 = (q : Int) := by omega
        rw [hq]
        refine (back_fn t ht.ok (bkI t (t.stops.length - (q + 1))) 1 (by omega)).sem _ ?_
        rw [back_at t ht _ (by omega)]
        obtain ⟨c, hc⟩ : ∃ c, t.stops[q]? = some c := ⟨_, List.getElem?_eq_getElem (by omega)⟩
        have hcd : (downL t t.n).getD (t.stops.length - (q + 1)) 0 = c := by
          rw [hf.2.2, List.getD_eq_getElem?_getD, List.getElem?_reverse (by omega), show t.stops.length - 1 - (t.stops.length - (q + 1)) = q by omega, hc]; rfl
        have hbk : bkI t (t.stops.length - q) = c := by
          rw [show t.stops.length - q = (t.stops.length - (q + 1)) + 1 by omega]; exact hcd
        rw [hcd]
        refine ⟨_, ⟨by omega, colsV_get hc⟩, ?_⟩
        refine BCase.no (by simp) ?_
        refine ⟨q, envW2 n l m t at0 c ((q : Int) - 1), [tB t], by omega, .same ?_ rfl, by omega, by rw [hbk], rfl⟩
        refine ⟨.inl rfl, .inl rfl, .inl rfl, .inl rfl, .inl rfl, .inl rfl, .inl rfl, .inl rfl, .inr rfl, .inl rfl, .inl rfl, .inr rfl, .inr rfl, .inl rfl, .inl ?_, ?_⟩
        · exact congrArg (V.int .i64) (wr64 (n := (q : Int) - 1) (by omega) (by omega)).symm
        · repeat (first | exact trivial | refine ⟨.inl rfl, ?_⟩ | refine ⟨.inr rfl, ?_⟩)
      · have hk0 : k = 0 := by have := of_decide_eq_false hh; omega
        subst hk0
        rw [Nat.sub_zero]
        have hb := back_at t ht _ (Nat.le_refl _)
        rw [List.getD_eq_getElem?_getD, List.getElem?_eq_none (by omega)] at hb
        generalize bkI t t.stops.length = bk at hb
        refine (back_fn t ht.ok bk 1 (by omega)).sem _ ?_
        rw [hb]
        refine BCase.no (by simp) ?_
        refine LoopP.inv (md := md0) (fun k env h => ∃ (i : Nat), k = mm - i ∧ i ≤ mm ∧ env = envW3 n l m t (upI t i) (dnI t i) i ∧ h = [tB t]) mm ⟨envW3 n l m t 0 (lastI t) 0, _, .same ?_ rfl, 0, rfl, Nat.zero_le _, rfl, rfl⟩ ?_
        · repeat (first | exact trivial | refine ⟨.inl rfl, ?_⟩ | refine ⟨.inr rfl, ?_⟩)
        rintro k _ _ ⟨i, rfl, hi, rfl, rfl⟩
        refine ⟨fun hh => ?_, fun hh => ?_⟩
        · have hi' : i < mm := by have := of_decide_eq_true hh; omega
          refine (next_fn t ht.ok (upI t i) 1 (by omega)).sem _ ?_
          rw [up_step t ht]
          refine (back_fn t ht.ok (dnI t i) 1 (by omega)).sem _ ?_
          rw [dn_step t ht]
          refine ⟨mm - (i + 1), envW3 n l m t (upI t (i + 1)) (dnI t (i + 1)) (i + 1 : Nat), [tB t], by omega, .same ?_ rfl, i + 1, rfl, hi', rfl, rfl⟩
          refine ⟨.inl rfl, .inl rfl, .inl rfl, .inl rfl, .inl rfl, .inl rfl, .inl rfl, .inl rfl, .inr rfl, .inl rfl, .inl rfl, .inr rfl, .inr rfl, .inr rfl, .inr rfl, .inl rfl, .inl rfl, .inl ?_, ?_⟩
          · exact congrArg (V.int .i64) (wrs i 1 (by omega))
          · repeat (first | exact trivial | refine ⟨.inl rfl, ?_⟩ | refine ⟨.inr rfl, ?_⟩)
        · have hi' : i = mm := by have := of_decide_eq_false hh; omega
          subst hi'
          refine (next_fn t ht.ok 0 (IntKind.i64.wrap (m.tmod 20)) (by rw [hmm]; omega)).sem _ ?_
          rw [show t.next 0 (IntKind.i64.wrap (m.tmod 20)) = upI t i by rw [hmm]; exact up_all t ht i]
          refine BCase.yes (by simp) ?_
          repeat (first | refine BCase.yes rfl ?_ | refine BCase.no rfl ?_)
          refine (back_fn t ht.ok (lastI t) (IntKind.i64.wrap (m.tmod 20)) (by rw [hmm]; omega)).sem _ ?_
          rw [show t.back (lastI t) (IntKind.i64.wrap (m.tmod 20)) = dnI t i by rw [hmm]; exact dn_all t ht i]
          repeat (first | refine BCase.yes rfl ?_ | refine BCase.no rfl ?_)
          show V.bool _ = _
          simp

end Go.Cx
