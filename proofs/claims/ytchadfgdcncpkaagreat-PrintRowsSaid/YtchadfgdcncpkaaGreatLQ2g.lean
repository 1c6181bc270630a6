/- What functions of this seat compute, each for every argument of the shapes that are named; no condition beside the stated ones. -/
import Derived.Test.YtchadfgdcncpkaaGreatLQ0g
import Derived.Test.YtchadfgdcncpkaaGreatCx21g
namespace Go.Cx
open Go.Proofs Go.Row
set_option maxRecDepth 100000
set_option maxHeartbeats 4000000
/-! ### Small functions of rows -/
def atC (a : At) : List V := [.int .u8 a.fk, .int .u8 a.fr, .int .u8 a.fg, .int .u8 a.fb, .int .u8 a.bk, .int .u8 a.br, .int .u8 a.bg, .int .u8 a.bb, .int .u16 a.fl]
def At.v (a : At) : V := .agg (atC a)
def blankOf (a : At) (l : Int) : Cl := ⟨0, 0, 0, 0, ⟨0, 0, 0, 0, a.bk, a.br, a.bg, a.bb, 0⟩, l⟩
theorem rHalf (c : Cl) : Fn Tryz.prog 120 [Cl.v c] (Cl.v (Row.half c)) := by
  refine Fn.of_body tysOk md0 Tryz.func120 rfl rfl rfl rfl ?_
  rfl
theorem rBlank (a : At) (l : Int) : Fn Tryz.prog 166 [At.v a, .int .u8 l] (Cl.v (blankOf a l)) := by
  refine Fn.of_body tysOk md0 Tryz.func166 rfl rfl rfl rfl ?_
  rfl
theorem cells_free {r : List (List V)} (h : ∀ x ∈ r, x.all cellOk = true) : r.flatten.all V.free1 = true := by
  rw [List.all_eq_true]
  intro y hy
  obtain ⟨x, hx, hyx⟩ := List.mem_flatten.1 hy
  have := List.all_eq_true.1 (h x hx) y hyx
  simp only [cellOk, Bool.and_eq_true] at this
  exact this.2
theorem rowF_free (r : List Cl) : (rowF r).all V.free1 = true := cells_free (rowC_ok r)
theorem rowF_one' (r : List Cl) : allOne (rowF r) = true := by
  unfold allOne
  rw [List.all_eq_true]
  intro y hy
  obtain ⟨x, hx, hyx⟩ := List.mem_flatten.1 hy
  have := List.all_eq_true.1 (rowC_ok r x hx) y hyx
  simp only [cellOk, Bool.and_eq_true] at this
  exact this.1
/-- A row's own block. -/
def bufB (r : List Cl) : Blk := .grow 0 46 14 (rowF r)
def bufV (id : Nat) (r : List Cl) : V := .gsl id 14 0 r.length r.length true 0
def withinI (i : Int) (n : Nat) : Int := if (if (n : Int) < i then (n : Int) else i) > 0 then (if (n : Int) < i then (n : Int) else i) else 0
theorem rOwn (r : List Cl) (hr : r.length < 1000000) : Eff Tryz.prog 155 [rowV r] [] [bufB r] (bufV 0 r) := by
  have hl := rowC_len r
  have hf := rowF_len r
  refine Eff.of rfl rfl rfl (by show ((rowF r).all V.free1 && true) = true; rw [rowF_free]; rfl) (Nat.zero_le _) (Sem.of_body tysOk md1 Tryz.func155 rfl rfl ?_)
  refine gdP ?_ ?_
  · show (decide (0 ≤ ((rowC r).length : Int)) && decide (((rowC r).length : Int) ≤ (rowC r).length) && decide (((rowC r).length : Int) ≤ 281474976710656) && decide (28 * ((rowC r).length : Int) ≤ 281474976710656) && true) = true
    rw [hl]; simp; omega
  have hz : zerosV (Cl.cs zeroC) (((rowC r).length : Int).toNat) = rowF (List.replicate r.length zeroC) := by rw [zeros_row, hl]; rfl
  have ht : ((rowC r).flatten).take (Nat.min (rowC r).length ((rowC r).length : Int).toNat * 14) = rowF r := by
    show (rowF r).take _ = _
    rw [Int.toNat_natCast, show Nat.min (rowC r).length (rowC r).length = (rowC r).length from Nat.min_self _, List.take_of_length_le (by rw [hf, hl]; exact Nat.le_refl _)]
  refine gdP ?_ ?_
  · show (true && true && true && (allOne (((rowC r).flatten).take (Nat.min (rowC r).length ((rowC r).length : Int).toNat * 14)) && Nat.ble (0 + (((rowC r).flatten).take (Nat.min (rowC r).length ((rowC r).length : Int).toNat * 14)).length) (zerosV (Cl.cs zeroC) (((rowC r).length : Int).toNat)).length)) = true
    rw [ht, hz, rowF_one', hf, rowF_len, List.length_replicate, Nat.ble_eq_true_of_le (by omega)]; rfl
  refine ⟨?_, Nat.le_refl _, .inl ?_, trivial⟩
  · show V.gsl 0 14 0 ((rowC r).length : Int).toNat ((rowC r).length : Int).toNat true 0 = _
    rw [hl]; rfl
  · show some (Blk.grow 0 _ _ (rowF r)) = some (Blk.grow 0 _ _ (setL (zerosV (Cl.cs zeroC) (((rowC r).length : Int).toNat)) 0 (((rowC r).flatten).take (Nat.min (rowC r).length ((rowC r).length : Int).toNat * 14))))
    rw [ht, hz]
    unfold setL
    rw [List.take_zero, List.nil_append, Nat.zero_add, List.drop_of_length_le (by rw [hf, rowF_len, List.length_replicate]; exact Nat.le_refl _), List.append_nil]
theorem buf_ok (r : List Cl) : [bufB r].all (Blk.okB 1) = true := by
  show ((rowF r).all V.free1 && true) = true
  rw [rowF_free]; rfl
theorem rWithinB (i : Int) (n : Nat) (r : List Cl) : Eff Tryz.prog 175 [.int .i64 i, .gsl 0 14 0 n n true 0] [bufB r] [bufB r] (.int .i64 (withinI i n)) := by
  refine Eff.of rfl rfl (buf_ok r) (buf_ok r) (Nat.le_refl _) (Sem.of_body tysOk md0 Tryz.func175 rfl rfl ?_)
  exact ⟨rfl, Nat.le_refl _, .inl rfl, trivial⟩
theorem rWithin (i : Int) (xs : List (List V)) : Fn Tryz.prog 175 [.int .i64 i, .psl 14 xs .any] (.int .i64 (withinI i xs.length)) := by
  refine Fn.of_body tysOk md0 Tryz.func175 rfl rfl rfl rfl ?_
  rfl
/-- A part of a cell of a row's own block is read. -/
theorem ldPart {h : Heap} {i ver e sz k : Nat} {r : List Cl} {c : Cl} (hg : hget h i = some (.grow ver e sz (rowF r))) (hc : r[k]? = some c) {t q j : Nat} {ti : TI} (hti : TT t = some ti) (hq : q = k * 14 + j) (hj : j + ti.size ≤ 14) (hj' : j < 14) {v : V}
    (hv : v = cond (isAggK ti.k) (.agg (((Cl.cs c).drop j).take ti.size)) ((Cl.cs c).getD j .undef)) : LdOk TT t h i q ver v := by
  obtain ⟨hk, _⟩ := List.getElem?_eq_some_iff.1 hc
  have hl := rowF_len r
  refine ⟨e, sz, rowF r, hg, ?_⟩
  subst hq
  unfold loadT
  rw [hti]
  cases hk2 : isAggK ti.k with
  | true =>
    rw [hk2] at hv
    simp only [cond_true] at hv ⊢
    have e1 : ((rowF r).drop (k * 14 + j)).take ti.size = ((Cl.cs c).drop j).take ti.size := by
      rw [← rowF_get hc, List.drop_take, List.take_take, List.drop_drop]
      congr 1; omega
    rw [e1, hv, Nat.ble_eq_true_of_le (by omega), hk2]
    rfl
  | false =>
    rw [hk2] at hv
    simp only [cond_false] at hv ⊢
    rw [rowF_at hc hj', hv, show Nat.blt (k * 14 + j) (rowF r).length = true by rw [Nat.blt_eq]; omega, hk2]
    rfl
/-! ### Bare: a cell of a row's own block is made a blank -/
def holdB (n : Nat) : Blk := .cells 75 [.gsl 1 14 0 n n true 0]
theorem hold_ok (n : Nat) (r : List Cl) : [holdB n, bufB r].all (Blk.okB 2) = true := by
  show (true && ((rowF r).all V.free1 && true)) = true
  rw [rowF_free]; rfl
theorem rBare (n : Nat) (r : List Cl) (hn : r.length = n) (i : Nat) (c : Cl) (hc : r[i]? = some c) : Eff Tryz.prog 176 [.int .i64 i, .ptr 0 0] [holdB n, bufB r] [holdB n, bufB (r.set i (bare c))] (.tup []) := by
  obtain ⟨hi, _⟩ := List.getElem?_eq_some_iff.1 hc
  subst hn
  refine Eff.of rfl rfl (hold_ok _ r) (hold_ok _ _) (Nat.le_refl _) (Sem.of_body tysOk md0 Tryz.func176 rfl rfl ?_)
  have hidx : (decide (0 ≤ (i : Int)) && decide ((i : Int) < r.length)) = true := by
    rw [Bool.and_eq_true]; exact ⟨decide_eq_true (by omega), decide_eq_true (by omega)⟩
  have hq : 0 + (i : Int).toNat * 14 = i * 14 := by rw [Nat.zero_add, Int.toNat_natCast]
  refine DrawP.intro tysOk mixed false ?_
  refine gdP hidx ?_
  refine ⟨_, ldPart rfl hc (j := 4) rfl (by rw [hq]) (by decide) (by decide) rfl, ?_⟩
  refine gdP hidx ?_
  refine ⟨_, ldPart rfl hc (j := 13) rfl (by rw [hq]) (by decide) (by decide) rfl, ?_⟩
  refine gdP hidx ?_
  refine gdP ?_ ?_
  · show (true && (true && Nat.ble (0 + (i : Int).toNat * 14 + 14) (rowF r).length)) = true
    rw [hq, rowF_len, Nat.ble_eq_true_of_le (by omega)]; rfl
  refine ⟨by kernel_rfl, ?_⟩
  refine ⟨rfl, Nat.le_refl _, .inl rfl, .inl ?_, trivial⟩
  show some (Blk.grow 0 _ _ (rowF (r.set i (bare c)))) = some (Blk.grow 0 _ _ (setL (rowF r) (0 + (i : Int).toNat * 14) (Cl.cs (bare c))))
  rw [hq, rowF_set hi]
end Go.Cx
namespace Go.Cx
open Go.Proofs Go.Row
set_option maxRecDepth 100000
set_option maxHeartbeats 4000000
def withinN (i : Int) (n : Nat) : Nat := min i.toNat n
theorem withinI_eq (i : Int) (n : Nat) : withinI i n = (withinN i n : Nat) := by
  unfold withinI withinN
  repeat' split
  all_goals omega
def brks (r : List Cl) (ats : List Int) : List Cl := ats.foldl (fun r i => brk r (withinN i r.length)) r
theorem brks_len (ats : List Int) : ∀ r, (brks r ats).length = r.length := by
  induction ats with
  | nil => intro r; rfl
  | cons a ats ih => intro r; show (brks _ ats).length = _; rw [ih, brk_length]
theorem brk_out (r : List Cl) (m : Nat) (h : ¬ (0 < m ∧ m < r.length)) : brk r m = r := by
  unfold brk
  split
  · rename_i c d b hd
    have := congrArg List.length hd
    simp at this
    rw [if_neg (fun e => h ⟨e.1, by omega⟩)]
  · rfl
theorem brk_in (r : List Cl) (m : Nat) (h0 : 0 < m) {c1 c2 : Cl} (h1 : r[m - 1]? = some c1) (h2 : r[m]? = some c2) : brk r m = if c1.kind = 1 ∧ c2.kind = 2 then (r.set (m - 1) (bare c1)).set m (bare c2) else r := by
  obtain ⟨k1, e1⟩ := List.getElem?_eq_some_iff.1 h1
  obtain ⟨k2, e2⟩ := List.getElem?_eq_some_iff.1 h2
  have hd : r.drop (m - 1) = c1 :: c2 :: r.drop (m + 1) := by
    rw [List.drop_eq_getElem_cons k1, e1, show m - 1 + 1 = m by omega, List.drop_eq_getElem_cons k2, e2]
  unfold brk
  rw [hd]
  simp only
  by_cases hk : c1.kind = 1 ∧ c2.kind = 2
  · rw [if_pos ⟨h0, hk.1, hk.2⟩, if_pos hk]
    have hl : (r.set (m - 1) (bare c1)).length = r.length := by simp
    rw [List.set_eq_take_append_cons_drop, if_pos (by omega), List.set_eq_take_append_cons_drop, if_pos k1]
    have hla : (r.take (m - 1)).length = m - 1 := by rw [List.length_take]; omega
    have hb : r.drop (m - 1 + 1) = c2 :: r.drop (m + 1) := by rw [show m - 1 + 1 = m by omega, List.drop_eq_getElem_cons k2, e2]
    rw [hb]
    generalize r.take (m - 1) = a at hla ⊢
    have ea : a ++ bare c1 :: c2 :: r.drop (m + 1) = (a ++ [bare c1]) ++ c2 :: r.drop (m + 1) := by simp
    have la : (a ++ [bare c1]).length = m := by simp; omega
    rw [ea]
    subst la
    rw [List.take_left, show (a ++ [bare c1]).length + 1 = (a ++ [bare c1]).length + 1 from rfl, List.drop_append, List.drop_of_length_le (Nat.le_succ _), show (a ++ [bare c1]).length + 1 - (a ++ [bare c1]).length = 1 by omega]
    simp
  · rw [if_neg (fun e => hk e.2), if_neg hk]
def intsV (l : List Int) : List (List V) := l.map fun i => [.int .i64 i]
def envBr (r0 : List Cl) (ats : List Int) (i : Int) : List V := [rowV r0, .psl 1 (intsV ats) .exact, .ptr 0 0, .undef, .nils, .fn (.func 176) [] [.ptr 0 0], .undef, .undef, .undef, .undef, .undef, .psl 1 (intsV ats) .exact, .int .i64 ats.length, .int .i64 i] ++ List.replicate 40 .undef
theorem rBreak (r0 : List Cl) (hr : r0.length < 1000000) (ats : List Int) (ha : ats.length < 1000000) : Fn Tryz.prog 168 [rowV r0, .psl 1 (intsV ats) .exact] (rowV (brks r0 ats)) := by
  refine ⟨rfl, rfl, Sem.freezeV (Sem.of_body tysOk md0 Tryz.func168 rfl rfl ?_)⟩
  refine (rOwn r0 hr).call [] 1 rfl rfl (by decide) rfl rfl ?_
  refine LoopP.inv (md := md0) (fun k env h => ∃ (i : Nat) (r : List Cl), k = ats.length - i ∧ i ≤ ats.length ∧ r.length = r0.length ∧ brks r (ats.drop i) = brks r0 ats ∧ env = envBr r0 ats i ∧ h = [some (holdB r0.length), some (bufB r)]) ats.length ⟨envBr r0 ats 0, _, .same ?_ ?_, 0, r0, rfl, Nat.zero_le _, rfl, rfl, rfl, rfl⟩ ?_
  · have : (intsV ats).length = ats.length := by simp [intsV]
    have e2 : (V.int .i64 ((intsV ats).length : Int)) = V.int .i64 (ats.length : Int) := by rw [this]
    repeat (first | exact trivial | refine ⟨.inl rfl, ?_⟩ | refine ⟨.inl e2.symm, ?_⟩ | refine ⟨.inr rfl, ?_⟩)
  · rfl
  rintro k _ _ ⟨i, r, rfl, hi, hrl, hb, rfl, rfl⟩
  refine ⟨fun h => ?_, fun h => ?_⟩
  · have hi' : i < ats.length := by have := of_decide_eq_true h; omega
    obtain ⟨a, ha2⟩ : ∃ a, ats[i]? = some a := ⟨_, List.getElem?_eq_getElem hi'⟩
    refine ⟨[.int .i64 a], ⟨by omega, by simp [intsV, ha2]⟩, ?_⟩
    refine (rWithinB a r0.length r).call [1] 2 rfl rfl (by decide) rfl rfl ?_
    have hw := withinI_eq a r0.length
    obtain ⟨m, hm⟩ : ∃ m, m = withinN a r0.length := ⟨_, rfl⟩
    rw [← hm] at hw
    have hmr : m ≤ r.length := by rw [hm, hrl]; exact Nat.min_le_right _ _
    have hwr : 0 < m → IntKind.i64.wrap (withinI a r0.length - 1) = ((m - 1 : Nat) : Int) := fun h0 => by rw [hw, wri (by omega) (by omega)]; omega
    have hst : brks r (ats.drop i) = brks (brk r m) (ats.drop (i + 1)) := by
      obtain ⟨q1, q2⟩ := List.getElem?_eq_some_iff.1 ha2
      rw [List.drop_eq_getElem_cons q1, q2, hm, ← hrl]; rfl
    rw [hst] at hb
    have stop : ¬ (0 < m ∧ m < r.length) → brk r m = r := brk_out r m
    have fin : ∀ (r2 : List Cl) (x7 : V) (l : List V) (_ : l.length = 40), r2.length = r0.length → brks r2 (ats.drop (i + 1)) = brks r0 ats →
        ∃ k' env2 h2, k' < ats.length - i ∧ Forg 2 ([rowV r0, .psl 1 (intsV ats) .exact, .ptr 0 0, .undef, .nils, .fn (.func 176) [] [.ptr 0 0], .undef, x7, .undef, .undef, .undef, .psl 1 (intsV ats) .exact, .int .i64 ats.length, .int .i64 (IntKind.i64.wrap ((i : Int) + 1))] ++ l) [some (holdB r0.length), some (bufB r2)] env2 h2 ∧
          ∃ (i : Nat) (r : List Cl), k' = ats.length - i ∧ i ≤ ats.length ∧ r.length = r0.length ∧ brks r (ats.drop i) = brks r0 ats ∧ env2 = envBr r0 ats i ∧ h2 = [some (holdB r0.length), some (bufB r)] := fun r2 x7 l hl h1 h2 =>
      ⟨ats.length - (i + 1), envBr r0 ats (i + 1 : Nat), _, by omega, .same (forgE_app _ _ _ _ ⟨.inl rfl, .inl rfl, .inl rfl, .inl rfl, .inl rfl, .inl rfl, .inl rfl, .inr rfl, .inl rfl, .inl rfl, .inl rfl, .inl rfl, .inl rfl, .inl (congrArg (V.int .i64) (wrs i 1 (by omega)).symm), trivial⟩ (forgE_undef _ _ hl)) rfl, i + 1, r2, rfl, hi', h1, h2, rfl, rfl⟩
    refine ⟨fun h1 => ?_, fun h1 => ?_⟩
    · have h1 : 0 < m := by have := of_decide_eq_true h1; omega
      repeat (first | refine BCase.yes rfl ?_ | refine BCase.no rfl ?_)
      refine ⟨fun h2 => ?_, fun h2 => ?_⟩
      · have h2 : m < r.length := by have := of_decide_eq_true h2; omega
        repeat (first | refine BCase.yes rfl ?_ | refine BCase.no rfl ?_)
        obtain ⟨c1, hc1⟩ : ∃ c, r[m - 1]? = some c := ⟨_, List.getElem?_eq_getElem (by omega)⟩
        obtain ⟨c2, hc2⟩ : ∃ c, r[m]? = some c := ⟨_, List.getElem?_eq_getElem (by omega)⟩
        have hw1 := hwr h1
        have hin := brk_in r m h1 hc1 hc2
        refine gdP (by rw [hw1, Bool.and_eq_true]; exact ⟨decide_eq_true (by omega), decide_eq_true (by omega)⟩) ?_
        repeat (first | refine BCase.yes rfl ?_ | refine BCase.no rfl ?_)
        refine ⟨_, ldPart rfl hc1 (j := 3) rfl (by rw [hw1, Nat.zero_add, Int.toNat_natCast]) (by decide) (by decide) rfl, ?_⟩
        repeat (first | refine BCase.yes rfl ?_ | refine BCase.no rfl ?_)
        refine ⟨fun h3 => ?_, fun h3 => ?_⟩
        · repeat (first | refine BCase.yes rfl ?_ | refine BCase.no rfl ?_)
          refine gdP (by rw [hw, Bool.and_eq_true]; exact ⟨decide_eq_true (by omega), decide_eq_true (by omega)⟩) ?_
          repeat (first | refine BCase.yes rfl ?_ | refine BCase.no rfl ?_)
          refine ⟨_, ldPart rfl hc2 (j := 3) rfl (by rw [hw, Nat.zero_add, Int.toNat_natCast]) (by decide) (by decide) rfl, ?_⟩
          repeat (first | refine BCase.yes rfl ?_ | refine BCase.no rfl ?_)
          refine ⟨fun h4 => ?_, fun h4 => ?_⟩
          · have hc2' : (r.set (m - 1) (bare c1))[m]? = some c2 := by rw [List.getElem?_set_ne (by omega)]; exact hc2
            rw [if_pos ⟨of_decide_eq_true h3, of_decide_eq_true h4⟩] at hin
            rw [hin] at hb
            refine (rBare r0.length r hrl (m - 1) c1 hc1).call [0, 1] 2 rfl (by rw [hw1]; rfl) (by decide) rfl (by rw [← hrl]; rfl) ?_
            refine (rBare r0.length _ (by simpa using hrl) m c2 hc2').call [0, 1] 2 rfl (by rw [hw]; rfl) (by decide) rfl rfl ?_
            exact fin _ _ _ rfl (by simpa using hrl) hb
          · repeat (first | refine BCase.yes rfl ?_ | refine BCase.no rfl ?_)
            rw [if_neg (fun e => of_decide_eq_false h4 e.2)] at hin
            rw [hin] at hb
            exact fin _ _ _ rfl hrl hb
        · repeat (first | refine BCase.yes rfl ?_ | refine BCase.no rfl ?_)
          rw [if_neg (fun e => of_decide_eq_false h3 e.1)] at hin
          rw [hin] at hb
          exact fin _ _ _ rfl hrl hb
      · repeat (first | refine BCase.yes rfl ?_ | refine BCase.no rfl ?_)
        rw [stop (by have := of_decide_eq_false h2; omega)] at hb
        exact fin _ _ _ rfl hrl hb
    · repeat (first | refine BCase.yes rfl ?_ | refine BCase.no rfl ?_)
      rw [stop (by have := of_decide_eq_false h1; omega)] at hb
      exact fin _ _ _ rfl hrl hb
  · have hi' : i = ats.length := by have := of_decide_eq_false h; omega
    subst hi'
    rw [List.drop_length] at hb
    have hb : r = brks r0 ats := hb
    subst hb
    refine ⟨1, 14, rowC (brks r0 ats), rowC_sz _, rowC_ok _, .inr ⟨0, r0.length, 14, true, 46, ?_, rfl⟩, rfl⟩
    rw [rowC_len, hrl]
end Go.Cx
namespace Go.Cx
open Go.Proofs Go.Row
set_option maxRecDepth 100000
set_option maxHeartbeats 4000000
/-! ### joint: parts, one behind the other -/
abbrev Part := List (List V)
def tokB (b : Bool) : Tok := match b with | true => .exact | false => .any
def partsV (ps : List (Part × Bool)) : List (List V) := ps.map fun p => [.psl 14 p.1 (tokB p.2)]
def flatP (ps : List (Part × Bool)) : Part := (ps.map (·.1)).flatten
def accV (acc : Part) : V := match acc with | [] => .psl 14 [] .exact | a :: acc => .psl 14 (a :: acc) (.own 0)
def accH (acc : Part) : Heap := match acc with | [] => [] | a :: acc => [some (.token 14 (acc.length + 1))]
def envJ (ps : List (Part × Bool)) (acc : Part) (i : Int) : List V := [.psl 1 (partsV ps) .exact, .undef, .nils, accV acc, .undef, .undef, .undef, .psl 1 (partsV ps) .exact, .int .i64 ps.length, .int .i64 i] ++ List.replicate 8 .undef
theorem joint_fn (ps : List (Part × Bool)) (hp : ps.length < 1000) (hl : (flatP ps).length < 10000000) : Fn Tryz.prog 169 [.psl 1 (partsV ps) .exact] (.psl 14 (flatP ps) .any) := by
  refine ⟨rfl, rfl, Sem.resT (Sem.of_body tysOk md0 Tryz.func169 rfl rfl ?_)⟩
  have hpl : (partsV ps).length = ps.length := by simp [partsV]
  refine LoopP.inv (md := md0) (fun k env h => ∃ (i : Nat) (acc : Part), k = ps.length - i ∧ i ≤ ps.length ∧ acc ++ flatP (ps.drop i) = flatP ps ∧ env = envJ ps acc i ∧ h = accH acc) ps.length ⟨envJ ps [] 0, _, .same ?_ ?_, 0, [], rfl, Nat.zero_le _, rfl, rfl, rfl⟩ ?_
  · have e2 : (V.int .i64 ((partsV ps).length : Int)) = V.int .i64 (ps.length : Int) := by rw [hpl]
    repeat (first | exact trivial | refine ⟨.inl rfl, ?_⟩ | refine ⟨.inl e2.symm, ?_⟩ | refine ⟨.inr rfl, ?_⟩)
  · rfl
  rintro k _ _ ⟨i, acc, rfl, hi, hacc, rfl, rfl⟩
  have hal : acc.length < 10000000 := by
    have := congrArg List.length hacc
    rw [List.length_append] at this; omega
  have step : ∀ (h : i < ps.length), ∃ (p : Part) (b : Bool), (acc ++ p) ++ flatP (ps.drop (i + 1)) = flatP ps ∧ acc.length + p.length < 10000000 ∧ (partsV ps)[i]? = some [.psl 14 p (tokB b)] := fun hi' => by
    obtain ⟨⟨p, b⟩, hpi⟩ : ∃ p, ps[i]? = some p := ⟨_, List.getElem?_eq_getElem hi'⟩
    have hst : flatP (ps.drop i) = p ++ flatP (ps.drop (i + 1)) := by
      obtain ⟨q1, q2⟩ := List.getElem?_eq_some_iff.1 hpi
      rw [List.drop_eq_getElem_cons q1, q2]; rfl
    rw [hst, ← List.append_assoc] at hacc
    refine ⟨p, b, hacc, ?_, by simp [partsV, hpi]⟩
    have := congrArg List.length hacc
    rw [List.length_append, List.length_append] at this; omega
  have fin : ∀ (p : Part) (h : i < ps.length) (x5 : V) (l : List V) (H : Heap) (_ : l.length = 8) (_ : accH (acc ++ p) = H), (acc ++ p) ++ flatP (ps.drop (i + 1)) = flatP ps →
      ∃ k' env2 h2, k' < ps.length - i ∧ Forg 0 ([.psl 1 (partsV ps) .exact, .undef, .nils, accV (acc ++ p), .undef, x5, .undef, .psl 1 (partsV ps) .exact, .int .i64 ps.length, .int .i64 (IntKind.i64.wrap ((i : Int) + 1))] ++ l) H env2 h2 ∧
        ∃ (i : Nat) (acc : Part), k' = ps.length - i ∧ i ≤ ps.length ∧ acc ++ flatP (ps.drop i) = flatP ps ∧ env2 = envJ ps acc i ∧ h2 = accH acc := fun p hi' x5 l H hl hH hacc =>
    ⟨ps.length - (i + 1), envJ ps (acc ++ p) (i + 1 : Nat), accH (acc ++ p), by omega, .same (forgE_app _ _ _ _ ⟨.inl rfl, .inl rfl, .inl rfl, .inl rfl, .inl rfl, .inr rfl, .inl rfl, .inl rfl, .inl rfl, .inl (congrArg (V.int .i64) (wrs i 1 (by omega)).symm), trivial⟩ (forgE_undef _ _ hl)) hH, i + 1, acc ++ p, rfl, hi', hacc, rfl, rfl⟩
  have last : i = ps.length → acc = flatP ps := fun e => by
    subst e
    rw [List.drop_length, show flatP [] = [] from rfl, List.append_nil] at hacc
    exact hacc
  cases acc with
  | nil =>
    refine ⟨fun h => ?_, fun h => ?_⟩
    · have hi' : i < ps.length := by have := of_decide_eq_true h; omega
      obtain ⟨p, b, hst, hlen, hget⟩ := step hi'
      refine ⟨[.psl 14 p (tokB b)], ⟨by omega, hget⟩, gdP rfl ?_⟩
      cases p with
      | nil => cases b <;> exact fin [] hi' _ _ _ rfl rfl hst
      | cons q p =>
        have hc : (true && (true && true && Nat.ble ((([] : Part).length + (q :: p).length) * 56) 281474976710656)) = true := by
          rw [Nat.ble_eq_true_of_le (by omega)]; rfl
        have hh : [some (Blk.token 14 (p.length + 1))] = [some (Blk.token 14 (([] : Part).length + (q :: p).length))] := by
          rw [List.length_nil, Nat.zero_add]; rfl
        cases b <;> exact gdP hc (fin (q :: p) hi' _ _ _ rfl hh hst)
    · rw [← last (by have := of_decide_eq_false h; omega)]
      exact ⟨_, forgT_psl, rfl⟩
  | cons a acc =>
    refine ⟨fun h => ?_, fun h => ?_⟩
    · have hi' : i < ps.length := by have := of_decide_eq_true h; omega
      obtain ⟨p, b, hst, hlen, hget⟩ := step hi'
      refine ⟨[.psl 14 p (tokB b)], ⟨by omega, hget⟩, gdP rfl ?_⟩
      cases p with
      | nil =>
        rw [List.append_nil] at hst
        have f := fin [] hi'
        rw [List.append_nil] at f
        cases b <;> exact f _ _ _ rfl rfl hst
      | cons q p =>
        have hc : (true && true && Nat.beq (acc.length + 1) (a :: acc).length && (true && true && Nat.ble (((a :: acc).length + (q :: p).length) * 56) 281474976710656)) = true := by
          rw [Nat.ble_eq_true_of_le (by omega), List.length_cons, Nat.beq_refl]; rfl
        have hh : [some (Blk.token 14 ((acc ++ q :: p).length + 1))] = [some (Blk.token 14 ((a :: acc).length + (q :: p).length))] := by
          rw [List.length_append, List.length_cons (a := a), show acc.length + (q :: p).length + 1 = acc.length + 1 + (q :: p).length by omega]
        cases b <;> exact gdP hc (fin (q :: p) hi' _ _ _ rfl hh hst)
    · rw [← last (by have := of_decide_eq_false h; omega)]
      exact ⟨_, forgT_psl, rfl⟩
end Go.Cx
namespace Go.Cx
open Go.Proofs Go.Row
set_option maxRecDepth 100000
set_option maxHeartbeats 4000000
theorem psl_eq {a b : List (List V)} (h : a = b) : V.psl 14 a .any = .psl 14 b .any := by rw [h]
theorem rowC_take (r : List Cl) (n : Nat) : (rowC r).take n = rowC (r.take n) := by simp [rowC, List.map_take]
theorem rowC_drop (r : List Cl) (n : Nat) : (rowC r).drop n = rowC (r.drop n) := by simp [rowC, List.map_drop]
theorem rowC_app (a b : List Cl) : rowC a ++ rowC b = rowC (a ++ b) := by simp [rowC]
theorem flat2 (a b : Part) (x y : Bool) : flatP [(a, x), (b, y)] = a ++ b := by simp [flatP]
theorem flat3 (a b c : Part) (x y z : Bool) : flatP [(a, x), (b, y), (c, z)] = a ++ (b ++ c) := by simp [flatP]
theorem take_all {α : Type} {l : List α} {n : Nat} (h : l.length ≤ n) : l.take n = l := List.take_of_length_le h
/-! ### Put -/
def rputI (r : List Cl) (i : Int) (c : Cl) (wide : Bool) : List Cl := if i < 0 then r else rput r i.toNat c wide
theorem sl_ok {a b n m : Int} (h0 : 0 ≤ a) (h1 : a ≤ b) (h2 : b ≤ n) (h3 : n ≤ m) : (decide (0 ≤ a) && decide (a ≤ b) && decide (b ≤ n) && decide (n ≤ m)) = true := by
  rw [decide_eq_true h0, decide_eq_true h1, decide_eq_true h2, decide_eq_true h3]; rfl
theorem rPut0 (r : List Cl) (hr : r.length < 1000000) (i : Int) (hi : -1000000 < i) (hi2 : i < 1000000) (c : Cl) : Fn Tryz.prog 167 [rowV r, .int .i64 i, Cl.v c, .bool false] (rowV (rputI r i c false)) := by
  refine ⟨rfl, rfl, Sem.gives (Sem.of_body tysOk md0 Tryz.func167 rfl rfl ?_)⟩
  have hl := rowC_len r
  have he : IntKind.i64.wrap (i + 1) = i + 1 := wri (by omega) (by omega)
  repeat (first | refine BCase.yes rfl ?_ | refine BCase.no rfl ?_)
  refine ⟨fun h1 => ?_, fun h1 => ?_⟩
  · repeat (first | refine BCase.yes rfl ?_ | refine BCase.no rfl ?_)
    refine (rOwn r hr).call [] 1 rfl rfl (by decide) rfl rfl ?_
    refine .inr (.inl ⟨1, 14, rowC r, rowC_sz r, rowC_ok r, .inr ⟨0, r.length, 14, true, 46, by rw [rowC_len], rfl⟩, ?_⟩)
    unfold rputI
    rw [if_pos (of_decide_eq_true h1)]
    rfl
  · have h1 : 0 ≤ i := by have := of_decide_eq_false h1; omega
    have hp : rputI r i c false = rput r i.toNat c false := by unfold rputI; rw [if_neg (by omega)]
    repeat (first | refine BCase.yes rfl ?_ | refine BCase.no rfl ?_)
    refine ⟨fun h2 => ?_, fun h2 => ?_⟩
    · have h2 : decide (IntKind.i64.wrap (i + 1) > ((rowC r).length : Int)) = true := h2
      have h2 : (rowC r).length < i + 1 := by have := of_decide_eq_true h2; omega
      repeat (first | refine BCase.yes rfl ?_ | refine BCase.no rfl ?_)
      refine (rOwn r hr).call [] 1 rfl rfl (by decide) rfl rfl ?_
      refine .inr (.inl ⟨1, 14, rowC r, rowC_sz r, rowC_ok r, .inr ⟨0, r.length, 14, true, 46, by rw [rowC_len], rfl⟩, ?_⟩)
      rw [hp]
      unfold rput
      rw [if_neg (by show ¬ (i.toNat + 1 ≤ r.length); omega)]
      rfl
    · have h2 : decide (IntKind.i64.wrap (i + 1) > ((rowC r).length : Int)) = false := h2
      have h2 : i + 1 ≤ (rowC r).length := by have := of_decide_eq_false h2; omega
      repeat (first | refine BCase.yes rfl ?_ | refine BCase.no rfl ?_)
      have hw1 : withinN i r.length = i.toNat := by unfold withinN; omega
      have hw2 : withinN (IntKind.i64.wrap (i + 1)) r.length = i.toNat + 1 := by unfold withinN; omega
      have hbl := brks_len [i, IntKind.i64.wrap (i + 1)] r
      have hb : brks r [i, IntKind.i64.wrap (i + 1)] = b2 r i.toNat (i.toNat + 1) := by
        show brk (brk r (withinN i r.length)) (withinN (IntKind.i64.wrap (i + 1)) (brk r (withinN i r.length)).length) = _
        rw [brk_length, hw1, hw2]; rfl
      refine (rBreak r hr [i, IntKind.i64.wrap (i + 1)] (by show 2 < _; omega)).sem _ ?_
      rw [hb] at hbl ⊢
      have hbl2 := rowC_len (b2 r i.toNat (i.toNat + 1))
      refine DrawP.intro tysOk mixed false ?_
      have hlen : ((rowC (b2 r i.toNat (i.toNat + 1))).length : Int) = r.length := by rw [hbl2, b2_length]
      refine gdP (sl_ok (Int.le_refl _) h1 (by omega) (Int.le_refl _)) ?_
      refine gdP (sl_ok (a := IntKind.i64.wrap (i + 1)) (by omega) (by omega) (Int.le_refl _) (Int.le_refl _)) ?_
      refine ⟨_, (joint_fn [(_, false), ([Cl.cs { c with kind := 0 }], true), (_, false)] (by show 3 < _; omega) ?_).callT _ _, ?_⟩
      · rw [flat3]
        simp only [List.length_append, List.length_take, List.length_drop, List.length_cons, List.length_nil]
        omega
      refine ⟨by kernel_rfl, ?_⟩
      refine .inl (psl_eq ?_)
      rw [flat3, hp]
      unfold rput
      rw [if_pos (by show i.toNat + 1 ≤ r.length; omega)]
      unfold over
      rw [← rowC_app, ← rowC_app, List.append_assoc]
      refine congr (congrArg _ ?_) (congr (congrArg _ rfl) ?_)
      · rw [show Int.toNat 0 = 0 from rfl, List.drop_zero, Nat.sub_zero, rowC_take]
        rfl
      · show ((rowC (b2 r i.toNat (i.toNat + 1))).drop (IntKind.i64.wrap (i + 1)).toNat).take (((rowC (b2 r i.toNat (i.toNat + 1))).length : Int).toNat - (IntKind.i64.wrap (i + 1)).toNat) = _
        rw [List.take_of_length_le (by rw [List.length_drop]; omega), he, rowC_drop]
        show rowC (List.drop (i + 1).toNat _) = rowC (List.drop (i.toNat + 1) _)
        rw [show (i + 1).toNat = i.toNat + 1 by omega]
        rfl
end Go.Cx
namespace Go.Cx
open Go.Proofs Go.Row
set_option maxRecDepth 100000
set_option maxHeartbeats 4000000
/-! ### Labels -/
theorem which_fn (b : Bool) (x y : Int) : Fn Tryz.prog 114 [.bool b, .int .u8 x, .int .u8 y] (.int .u8 (if b then x else y)) := by
  refine Fn.of_body tysOk md0 Tryz.func114 rfl rfl rfl rfl ?_
  refine ⟨fun h => ?_, fun h => ?_⟩
  · subst h; rfl
  · subst h; rfl
theorem join1_fn (x : Int) : Fn Tryz.prog 116 [.int .u8 x] (.bool (decide (x > 0))) := by
  refine Fn.of_body tysOk md0 Tryz.func116 rfl rfl rfl rfl ?_
  rfl
def lv (x : Int) : List V := [.int .u8 x]
theorem some_fn (g : FuncId) (p : Int → Bool) (hg : ∀ x, Fn Tryz.prog g [.int .u8 x] (.bool (p x))) (xs : List Int) (ys : List (List V)) (tok : Tok) (hy : ys = xs.map lv) (ht : (V.psl 1 ys tok).free = true) (hn : xs.length < 9223372036854775807) :
    Fn Tryz.prog 115 [.psl 1 ys tok, .fn (.func g) [] []] (.bool (xs.any p)) := by
  refine Fn.of_body tysOk md0 Tryz.func115 rfl rfl ?_ rfl ?_
  · simp only [allFree, List.all_cons, ht]; rfl
  · conv => whnf
    subst hy
    refine LoopP.inv (md := md0) (fun k env h => ∃ i : Nat, i + k = xs.length ∧ (xs.take i).any p = false ∧ h = [] ∧ env = [.psl 1 (xs.map lv) tok, .fn (.func g) [] [], .undef, .undef, .bool false, .undef, .undef, .psl 1 (xs.map lv) tok, .int .i64 (xs.map lv).length, .int .i64 i, .undef, .undef, .undef, .undef, .undef, .undef, .undef]) xs.length ?_ ?_
    · refine ⟨_, _, .same ?_ rfl, 0, by omega, by simp, rfl, rfl⟩
      repeat (first | exact trivial | refine ⟨.inl rfl, ?_⟩ | refine ⟨.inr rfl, ?_⟩)
    · rintro k env h ⟨i, hik, hany, rfl, rfl⟩
      refine ⟨fun hlt => ?_, fun hge => ?_⟩
      · have hlt' : i < xs.length := by simpa using hlt
        refine ⟨lv xs[i], ⟨by omega, by simp [hlt']⟩, ?_⟩
        refine (hg _).sem _ ?_
        refine ⟨fun hp => ?_, fun hp => ?_⟩
        · show V.bool true = _
          have : xs.any p = true := List.any_eq_true.2 ⟨xs[i], List.getElem_mem hlt', hp⟩
          rw [this]
        · refine ⟨k - 1, _, _, by omega, .same ?_ rfl, i + 1, by omega, ?_, rfl, rfl⟩
          · rw [show ((i + 1 : Nat) : Int) = IntKind.i64.wrap ((i : Int) + 1) from (wri (by omega) (by omega)).symm]
            repeat (first | exact trivial | refine ⟨.inl rfl, ?_⟩ | refine ⟨.inr rfl, ?_⟩)
          · rw [List.take_succ_eq_append_getElem hlt', List.any_append, hany]; simp [hp]
      · have hge' : ¬ i < xs.length := by simpa using hge
        show V.bool false = _
        have : xs.any p = false := by rw [← hany, List.take_of_length_le (by omega)]
        rw [this]
def joinL (xs : List Int) : Int := if xs.any fun x => decide (x > 0) then 1 else 0
theorem join_fn (xs : List Int) (ys : List (List V)) (tok : Tok) (hy : ys = xs.map lv) (ht : (V.psl 1 ys tok).free = true) (hn : xs.length < 9223372036854775807) :
    Fn Tryz.prog 63 [.psl 1 ys tok] (.int .u8 (joinL xs)) := by
  refine Fn.of_body tysOk md0 Tryz.func63 rfl rfl ?_ rfl ?_
  · simp only [allFree, List.all_cons, ht]; rfl
  · refine (some_fn 116 _ join1_fn xs ys tok hy ht hn).sem _ ?_
    refine (which_fn _ _ _).sem _ ?_
    rfl
def join2 (a b : Int) : Int := if a > 0 ∨ b > 0 then 1 else 0
theorem joinL2 (a b : Int) : joinL [a, b] = join2 a b := by unfold joinL join2; simp
theorem join2_fn (a b : Int) : Fn Tryz.prog 63 [.psl 1 [[.int .u8 a], [.int .u8 b]] .exact] (.int .u8 (join2 a b)) := by
  have := join_fn [a, b] _ .exact rfl rfl (by simp)
  rwa [joinL2] at this
def flowsB (a b : Int) : Bool := decide (join2 a b = if b > 0 then 1 else 0)
theorem flows_fn (a b : Int) : Fn Tryz.prog 97 [.int .u8 a, .int .u8 b] (.bool (flowsB a b)) := by
  refine Fn.of_body tysOk md0 Tryz.func97 rfl rfl rfl rfl ?_
  refine (join2_fn a b).sem _ ?_
  refine (join_fn [b] _ .exact rfl rfl (by simp)).sem _ ?_
  show V.bool (join2 a b == joinL [b]) = _
  have : joinL [b] = if b > 0 then 1 else 0 := by unfold joinL; simp
  rw [this]; rfl
end Go.Cx
namespace Go.Cx
open Go.Proofs Go.Row
set_option maxRecDepth 100000
set_option maxHeartbeats 4000000
theorem rowF_part {r : List Cl} {i j : Nat} {c c' : Cl} (hc : r[i]? = some c) {vs : List V} (hj : j + vs.length ≤ 14) (h : setL (Cl.cs c) j vs = Cl.cs c') : setL (rowF r) (i * 14 + j) vs = rowF (r.set i c') := by
  obtain ⟨hi, hci⟩ := List.getElem?_eq_some_iff.1 hc
  rw [← rowF_set hi c', ← h]
  have hg := rowF_get hc
  have hl := rowF_len r
  unfold setL
  have hcl : (Cl.cs c).length = 14 := rfl
  have e1 : ((Cl.cs c).take j ++ vs ++ (Cl.cs c).drop (j + vs.length)).length = 14 := by
    simp only [List.length_append, List.length_take, List.length_drop, hcl]; omega
  rw [e1, ← hg]
  rw [List.take_take, Nat.min_eq_left (by omega), List.drop_take, List.drop_drop, List.take_add]
  simp only [List.append_assoc]
  congr 3
  have h3 : (rowF r).drop (i * 14 + j + vs.length) = ((rowF r).drop (i * 14 + (j + vs.length))).take (14 - (j + vs.length)) ++ (rowF r).drop (i * 14 + 14) := by
    rw [← Nat.add_assoc]
    conv => lhs; rw [← List.take_append_drop (14 - (j + vs.length)) ((rowF r).drop (i * 14 + j + vs.length))]
    rw [List.drop_drop]
    congr 2; omega
  rw [h3]
/-! ### Raise -/
def raiseR (r : List Cl) (l : Int) : List Cl := r.map (relabel fun x => join2 x l)
theorem raiseR_len (r : List Cl) (l : Int) : (raiseR r l).length = r.length := by simp [raiseR]
def envRa (n : Nat) (l : Int) (i : Int) : List V := [.gsl 0 14 0 n n true 0, .int .u8 l, .undef, .undef, .nils, .undef, .undef, .gsl 0 14 0 n n true 0, .gsl 0 14 0 n n true 0, .int .i64 n, .int .i64 i] ++ List.replicate 16 .undef
theorem rRaise (r : List Cl) (hr : r.length < 1000000) (l : Int) : Fn Tryz.prog 135 [rowV r, .int .u8 l] (rowV (raiseR r l)) := by
  refine ⟨rfl, rfl, Sem.gives (Sem.of_body tysOk md0 Tryz.func135 rfl rfl ?_)⟩
  refine (rOwn r hr).call [] 0 rfl rfl (by decide) rfl rfl ?_
  refine LoopP.inv (md := md0) (fun k env h => ∃ (i : Nat), k = r.length - i ∧ i ≤ r.length ∧ env = envRa r.length l i ∧ h = [some (bufB (raiseR (r.take i) l ++ r.drop i))]) r.length ⟨envRa r.length l 0, _, .same (by repeat (first | exact trivial | refine ⟨.inl rfl, ?_⟩ | refine ⟨.inr rfl, ?_⟩)) (by rw [List.take_zero, List.drop_zero]; rfl), 0, rfl, Nat.zero_le _, rfl, rfl⟩ ?_
  rintro k _ _ ⟨i, rfl, hi, rfl, rfl⟩
  refine ⟨fun h => ?_, fun h => ?_⟩
  · have hi' : i < r.length := by have := of_decide_eq_true h; omega
    obtain ⟨c, hc⟩ : ∃ c, r[i]? = some c := ⟨_, List.getElem?_eq_getElem hi'⟩
    have hta : (raiseR (r.take i) l).length = i := by rw [raiseR_len, List.length_take]; omega
    have hc' : (raiseR (r.take i) l ++ r.drop i)[i]? = some c := by
      rw [List.getElem?_append_right (by omega), hta, Nat.sub_self, List.getElem?_drop, Nat.add_zero, hc]
    have hidx : (decide (0 ≤ (i : Int)) && decide ((i : Int) < r.length)) = true := by
      rw [Bool.and_eq_true]; exact ⟨decide_eq_true (by omega), decide_eq_true (by omega)⟩
    have hq : 0 + (i : Int).toNat * 14 + 13 = i * 14 + 13 := by rw [Nat.zero_add, Int.toNat_natCast]
    refine gdP hidx ?_
    refine ⟨_, ldPart rfl hc' (j := 13) rfl hq (by decide) (by decide) rfl, ?_⟩
    refine (join2_fn c.lab l).sem _ ?_
    refine gdP hidx ?_
    have hlen : (rowF (raiseR (r.take i) l ++ r.drop i)).length = r.length * 14 := by rw [rowF_len, List.length_append, hta, List.length_drop]; omega
    refine gdP ?_ ?_
    · show (true && (true && Nat.ble (0 + (i : Int).toNat * 14 + 13 + 1) (rowF (raiseR (r.take i) l ++ r.drop i)).length)) = true
      rw [hq, hlen, Nat.ble_eq_true_of_le (by omega)]; rfl
    refine ⟨r.length - (i + 1), envRa r.length l (i + 1 : Nat), _, by omega, .same ?_ ?_, i + 1, rfl, hi', rfl, rfl⟩
    · repeat (first | exact trivial | refine ⟨.inl rfl, ?_⟩ | refine ⟨.inl (congrArg (V.int .i64) (wrs i 1 (by omega)).symm), ?_⟩ | refine ⟨.inr rfl, ?_⟩)
    · show _ = [some (Blk.grow 0 _ _ (setL (rowF (raiseR (r.take i) l ++ r.drop i)) (0 + (i : Int).toNat * 14 + 13) [.int .u8 (join2 c.lab l)]))]
      rw [hq, rowF_part (c' := relabel (fun x => join2 x l) c) hc' (by show 13 + 1 ≤ 14; omega) rfl]
      have e : (raiseR (r.take i) l ++ r.drop i).set i (relabel (fun x => join2 x l) c) = raiseR (r.take (i + 1)) l ++ r.drop (i + 1) := by
        obtain ⟨q1, q2⟩ := List.getElem?_eq_some_iff.1 hc
        rw [List.set_append_right _ _ (by omega), hta, Nat.sub_self, List.drop_eq_getElem_cons q1, List.set_cons_zero, List.take_succ_eq_append_getElem q1, q2]
        simp [raiseR]
      rw [e]; rfl
  · have hi' : i = r.length := by have := of_decide_eq_false h; omega
    subst hi'
    refine .inr (.inl ⟨0, 14, rowC (raiseR r l), rowC_sz _, rowC_ok _, .inr ⟨0, r.length, 14, true, 46, ?_, ?_⟩, rfl⟩)
    · rw [rowC_len, raiseR_len]
    · show some (bufB (raiseR (r.take r.length) l ++ r.drop r.length)) = _
      rw [List.take_length, List.drop_length, List.append_nil]; rfl
end Go.Cx
namespace Go.Cx
open Go.Proofs Go.Row
set_option maxRecDepth 100000
set_option maxHeartbeats 4000000
/-! ### Grids: blanks -/
def rowsC (l : List (List Cl)) : List V := l.map rowV
theorem rowsC_free (l : List (List Cl)) : (rowsC l).all V.free1 = true := by
  rw [List.all_eq_true]
  intro x hx
  obtain ⟨r, _, rfl⟩ := List.mem_map.1 hx
  rfl
def blankH (b : Cl) (row : List Cl) (n : Nat) : Heap := [some (.cells 46 (Cl.cs b)), some (.cells 75 [rowV row]), some (.grow n 75 1 (rowsC (List.replicate (n + 1) row)))]
def envBk (n : Int) (c : Int) (b : Cl) (k : Nat) (i : Int) : List V := [.int .i64 n, .int .i64 c, Cl.v b, .undef, .undef, .ptr 0 0, .gsl 2 1 0 (k + 1) (k + 1) false k, .int .i64 n, .int .i64 i] ++ List.replicate 9 .undef
theorem gBlanks (n : Nat) (hn : n < 1000) (c : Nat) (hc : c < 1000000) (b : Cl) : Eff Tryz.prog 77 [.int .i64 (n + 1 : Nat), .int .i64 c, Cl.v b] [] [.grow n 75 1 (rowsC (List.replicate (n + 1) (List.replicate c b)))] (.gsl 0 1 0 (n + 1) (n + 1) false n) := by
  refine Eff.ofP rfl rfl rfl (by show ((rowsC _).all V.free1 && true) = true; rw [rowsC_free]; rfl) (Nat.zero_le _) (Sem.of_body tysOk md1 Tryz.func77 rfl rfl ?_)
  refine LoopP.unroll (md := md1) ?_
  refine BCase.yes (decide_eq_true (by omega)) ?_
  refine (rNew c hc b).sem _ ?_
  refine LoopP.inv (md := md1) (fun k env h => ∃ (i : Nat), k = n - i ∧ i ≤ n ∧ env = envBk (n + 1 : Nat) c b i (i + 1 : Nat) ∧ h = blankH b (List.replicate c b) i) n ⟨envBk (n + 1 : Nat) c b 0 (0 + 1 : Nat), _, .same (by repeat (first | exact trivial | refine ⟨.inl rfl, ?_⟩ | refine ⟨.inr rfl, ?_⟩)) rfl, 0, rfl, Nat.zero_le _, rfl, rfl⟩ ?_
  rintro k _ _ ⟨i, rfl, hi, rfl, rfl⟩
  refine ⟨fun h => ?_, fun h => ?_⟩
  · have hi' : i < n := by have := of_decide_eq_true h; omega
    refine (rNew c hc b).sem _ ?_
    refine ⟨_, _, _, _, apGrow (x := .lsl 3 1 0 1 1) (el := ⟨true, 1, [rowV (List.replicate c b)], [3]⟩) rfl rfl rfl rfl rfl rfl rfl rfl rfl (Nat.succ_ne_zero 0) rfl (by show i + 1 < i + 1 + 1; omega) rfl ?_ rfl rfl ?_ (fun _ _ e => by cases e), ?_⟩
    · show (i + 1) * 1 = (rowsC _).length
      simp [rowsC]
    · show (true && true && Nat.ble ((i + 1 + 1) * 48) 281474976710656) = true
      rw [Nat.ble_eq_true_of_le (by omega)]; rfl
    refine ⟨n - (i + 1), envBk (n + 1 : Nat) c b (i + 1) (i + 1 + 1 : Nat), blankH b (List.replicate c b) (i + 1), by omega, .cut ?_ (by show 1 ≤ 3; decide) ?_ ?_, i + 1, rfl, hi', rfl, rfl⟩
    · repeat (first | exact trivial | refine ⟨.inl rfl, ?_⟩ | refine ⟨.inl (congrArg (V.int .i64) (wrs (i + 1) 1 (by omega)).symm), ?_⟩ | refine ⟨.inr rfl, ?_⟩)
    · show _ = [_, _, some (Blk.grow (i + 1) _ _ (rowsC (List.replicate (i + 1) (List.replicate c b)) ++ [rowV (List.replicate c b)]))]
      have : rowsC (List.replicate (i + 1) (List.replicate c b)) ++ [rowV (List.replicate c b)] = rowsC (List.replicate (i + 1 + 1) (List.replicate c b)) := by
        rw [List.replicate_succ' (n := i + 1)]; simp [rowsC]
      rw [this]; rfl
    · have hf : (rowsC (List.replicate (i + 1 + 1) (List.replicate c b))).all (V.under 3) = true := by
        rw [List.all_eq_true]; intro x hx; exact free1_under (List.all_eq_true.1 (rowsC_free _) x hx)
      show (_ && (_ && (_ && ((rowsC (List.replicate (i + 1 + 1) (List.replicate c b))).all (V.under 3) && true)))) = true
      rw [hf]; rfl
  · have hi' : i = n := by have := of_decide_eq_false h; omega
    subst hi'
    exact ⟨[2], 3, rfl, by decide, fun i hi => absurd hi (Nat.not_lt_zero _), rfl, rfl⟩
theorem gBlanks0 (n : Int) (hn : n ≤ 0) (c : Nat) (b : Cl) : Fn Tryz.prog 77 [.int .i64 n, .int .i64 c, Cl.v b] .nils := by
  refine Fn.of_body tysOk md0 Tryz.func77 rfl rfl rfl rfl ?_
  refine LoopP.unroll (md := md0) ?_
  refine BCase.no (decide_eq_false (by omega)) ?_
  rfl
end Go.Cx
namespace Go.Cx
open Go.Proofs Go.Row
set_option maxRecDepth 100000
set_option maxHeartbeats 4000000
theorem rWithinN (i : Int) (xs : List (List V)) {n : Nat} (hn : xs.length = n) : Fn Tryz.prog 175 [.int .i64 i, .psl 14 xs .any] (.int .i64 (withinN i n : Nat)) := by
  have := rWithin i xs
  rw [withinI_eq, hn] at this
  exact this
theorem b2_brks {r : List Cl} {i j : Nat} {x y : Int} (hx : withinN x r.length = i) (hy : withinN y r.length = j) : brks r [x, y] = b2 r i j := by
  show brk (brk r (withinN x r.length)) (withinN y (brk r (withinN x r.length)).length) = _
  rw [brk_length, hx, hy]; rfl
/-! ### Insert -/
def rinsI (r : List Cl) (at_ n : Int) (b : Cl) : List Cl := rinsert r (withinN at_ r.length) (withinN n (r.length - withinN at_ r.length)) b
theorem rIns (r : List Cl) (hr : r.length < 1000000) (a n : Int) (b : Cl) : Fn Tryz.prog 163 [rowV r, .int .i64 a, .int .i64 n, Cl.v b] (rowV (rinsI r a n b)) := by
  obtain ⟨res, hres⟩ : ∃ res, res = rinsI r a n b := ⟨_, rfl⟩
  rw [← hres]
  unfold rinsI at hres
  refine ⟨rfl, rfl, Sem.gives (Sem.of_body tysOk md0 Tryz.func163 rfl rfl ?_)⟩
  have hl := rowC_len r
  refine (rWithinN a (rowC r) hl).sem _ ?_
  obtain ⟨i, hi⟩ : ∃ i, i = withinN a r.length := ⟨_, rfl⟩
  rw [← hi] at hres ⊢
  have hir : i ≤ r.length := by rw [hi]; exact Nat.min_le_right _ _
  refine gdP (sl_ok (by omega) (by omega) (Int.le_refl _) (Int.le_refl _)) ?_
  refine (rWithinN n _ (n := r.length - i) (by simp only [List.length_take, List.length_drop]; omega)).sem _ ?_
  obtain ⟨k, hk⟩ : ∃ k, k = withinN n (r.length - i) := ⟨_, rfl⟩
  rw [← hk] at hres ⊢
  have hkr : k ≤ r.length - i := by rw [hk]; exact Nat.min_le_right _ _
  have he : IntKind.i64.wrap (((rowC r).length : Int) - k) = ((r.length - k : Nat) : Int) := by rw [hl, wri (by omega) (by omega)]; omega
  have hb := b2_brks (r := r) (i := i) (j := r.length - k) (x := i) (y := IntKind.i64.wrap (((rowC r).length : Int) - k)) (by unfold withinN; omega) (by unfold withinN; omega)
  refine (rBreak r hr [(i : Int), IntKind.i64.wrap (((rowC r).length : Int) - k)] (by show 2 < _; omega)).sem _ ?_
  rw [hb]
  have hbl2 := rowC_len (b2 r i (r.length - k))
  rw [b2_length] at hbl2
  refine DrawP.intro tysOk mixed false ?_
  refine gdP (sl_ok (Int.le_refl _) (by omega) (by omega) (Int.le_refl _)) ?_
  refine ⟨_, (rNew k (by omega) b).callT _ _, ?_⟩
  refine gdP (sl_ok (b := IntKind.i64.wrap (((rowC r).length : Int) - k)) (by omega) (by omega) (by omega) (Int.le_refl _)) ?_
  refine ⟨_, (joint_fn [(_, false), (rowC (List.replicate k b), false), (_, false)] (by show 3 < _; omega) ?_).callT _ _, ?_⟩
  · rw [flat3]
    simp only [List.length_append, List.length_take, List.length_drop, List.length_replicate, rowC_len (List.replicate k b)]
    omega
  refine ⟨by kernel_rfl, ?_⟩
  refine .inl (psl_eq ?_)
  rw [flat3, hres]
  unfold rinsert
  rw [← rowC_app, ← rowC_app, List.append_assoc]
  refine congr (congrArg _ ?_) (congr (congrArg _ rfl) ?_)
  · show ((rowC (b2 r i (r.length - k))).drop 0).take ((i : Int).toNat - 0) = _
    rw [List.drop_zero, Nat.sub_zero, rowC_take, Int.toNat_natCast]
  · show ((rowC (b2 r i (r.length - k))).drop (i : Int).toNat).take ((IntKind.i64.wrap (((rowC r).length : Int) - k)).toNat - (i : Int).toNat) = _
    rw [he, rowC_drop, rowC_take, Int.toNat_natCast, Int.toNat_natCast]
/-! ### Resize -/
theorem rRes (r : List Cl) (hr : r.length < 1000000) (n : Nat) (hn : n < 1000000) (b : Cl) : Fn Tryz.prog 148 [rowV r, .int .i64 n, Cl.v b] (rowV (rresize r n b)) := by
  obtain ⟨res, hres⟩ : ∃ res, res = rresize r n b := ⟨_, rfl⟩
  rw [← hres]
  unfold rresize at hres
  refine ⟨rfl, rfl, Sem.gives (Sem.of_body tysOk md0 Tryz.func148 rfl rfl ?_)⟩
  have hl := rowC_len r
  have hm : mx n = n := by rw [mx_eq]; rfl
  have hb : brks r [mx n] = brk r (min n r.length) := by
    show brk r (withinN (mx n) r.length) = _
    unfold withinN; rw [hm]; rfl
  have hb2 : brk r (min n r.length) = brk r n := by
    rcases Nat.lt_or_ge n r.length with h | h
    · rw [Nat.min_eq_left (by omega)]
    · rw [brk_out _ _ (by omega), brk_out _ _ (by omega)]
  refine (rBreak r hr [mx n] (by show 1 < _; omega)).sem _ ?_
  rw [hb, hb2]
  have hbl2 := rowC_len (brk r n)
  rw [brk_length] at hbl2
  have hmn : (if ((rowC (brk r n)).length : Int) < mx n then ((rowC (brk r n)).length : Int) else mx n) = (min n r.length : Nat) := by
    rw [hm]; split <;> omega
  refine DrawP.intro tysOk mixed false ?_
  refine gdP (sl_ok (b := (if ((rowC (brk r n)).length : Int) < mx n then ((rowC (brk r n)).length : Int) else mx n)) (Int.le_refl _) (by omega) (by omega) (Int.le_refl _)) ?_
  have hw : IntKind.i64.wrap (mx n - ((rowC (brk r n)).length : Int)) = (n : Int) - r.length := by rw [hm, hbl2, wri (by omega) (by omega)]
  refine ⟨_, (rNewI (IntKind.i64.wrap (mx n - ((rowC (brk r n)).length : Int))) (by omega) b).callT _ _, ?_⟩
  refine ⟨_, (joint_fn [(_, false), (rowC (List.replicate (IntKind.i64.wrap (mx n - ((rowC (brk r n)).length : Int))).toNat b), false)] (by show 2 < _; omega) ?_).callT _ _, ?_⟩
  · rw [flat2]
    simp only [List.length_append, List.length_take, List.length_drop, rowC_len (List.replicate _ b), List.length_replicate]
    omega
  refine ⟨by kernel_rfl, ?_⟩
  refine .inl (psl_eq ?_)
  rw [flat2, hres, ← rowC_app, hw]
  refine congr (congrArg _ ?_) ?_
  · show ((rowC (brk r n)).drop 0).take ((if ((rowC (brk r n)).length : Int) < mx n then ((rowC (brk r n)).length : Int) else mx n).toNat - 0) = _
    rw [List.drop_zero, Nat.sub_zero, hmn, rowC_take, Int.toNat_natCast]
    rcases Nat.lt_or_ge n r.length with h | h
    · rw [Nat.min_eq_left (by omega)]
    · rw [Nat.min_eq_right h, List.take_of_length_le (by rw [brk_length]; omega), List.take_of_length_le (by rw [brk_length]; omega)]
  · rw [show ((n : Int) - r.length).toNat = n - r.length by omega]
end Go.Cx
namespace Go.Cx
open Go.Proofs Go.Row
set_option maxRecDepth 100000
set_option maxHeartbeats 4000000
def tails : Code → Nat → Code
  | c, 0 => c
  | .seq _ c, n + 1 => tails c n
  | c, _ + 1 => c
noncomputable def codeMk : Code := match Tryz.f157.body with | some c => c | none => .skip
def relab (l : Int) (c : Cl) : Cl := { c with lab := join2 c.lab l }
def labR (r : List Cl) (i : Nat) (c : Cl) (l : Int) : List Cl :=
  if c.kind = 1 then (match r[i + 1]? with | some d => (r.set i (relab l c)).set (i + 1) (relab l d) | none => r.set i (relab l c)) else r.set i (relab l c)
def buf (n : Nat) : V := .gsl 0 14 0 n n true 0
def envMB (n i q : Nat) (m l : Int) : List V := [buf n, .int .i64 i, .int .i32 m, .int .u8 l, .undef, .undef, .undef, .undef, .nils, .gptr 0 q 0] ++ List.replicate 87 .undef
theorem ldPartE {h : Heap} {i ver e sz k : Nat} {r : List Cl} {cs : List V} {c : Cl} (hg : hget h i = some (.grow ver e sz cs)) (hcs : cs = rowF r) (hc : r[k]? = some c) {t q j : Nat} {ti : TI} (hti : TT t = some ti) (hq : q = k * 14 + j) (hj : j + ti.size ≤ 14) (hj' : j < 14) {v : V}
    (hv : v = cond (isAggK ti.k) (.agg (((Cl.cs c).drop j).take ti.size)) ((Cl.cs c).getD j .undef)) : LdOk TT t h i q ver v := by
  subst hcs
  exact ldPart hg hc hti hq hj hj' hv
theorem mkTailB (r : List Cl) (n : Nat) (hn : r.length = n) (hn2 : n < 1000000) (i q : Nat) (hq0 : q = i * 14) (c : Cl) (hc : r[i]? = some c) (m l : Int) {Q : X → List V → Heap → Prop} (hQ : ∀ env', env'[8]? = some (buf n) → Q .ret env' [some (bufB (labR r i c l))]) :
    Wp Tryz.prog TT (tails codeMk 7) (envMB n i q m l) [some (bufB r)] Q := by
  subst hq0
  obtain ⟨hi, _⟩ := List.getElem?_eq_some_iff.1 hc
  have hlen := rowF_len r
  refine Wp.of (md := md0) tysOk ?_
  refine gdP rfl ?_
  refine ⟨_, ldPart rfl hc (j := 13) rfl rfl (by decide) (by decide) rfl, ?_⟩
  refine (join2_fn c.lab l).sem _ ?_
  refine gdP ?_ ?_
  · show (true && (true && Nat.ble (i * 14 + 13 + 1) (rowF r).length)) = true
    rw [hlen, Nat.ble_eq_true_of_le (by omega)]; rfl
  have hh : setL (rowF r) (i * 14 + 13) [.int .u8 (join2 c.lab l)] = rowF (r.set i (relab l c)) := rowF_part hc (by show 13 + 1 ≤ 14; omega) rfl
  have hc1 : (r.set i (relab l c))[i]? = some (relab l c) := by rw [List.getElem?_set_self hi]
  have hl1 := rowF_len (r.set i (relab l c))
  rw [List.length_set] at hl1
  refine ⟨_, ldPartE rfl hh hc1 (j := 3) rfl rfl (by decide) (by decide) rfl, ?_⟩
  refine ⟨fun h1 => ?_, fun h1 => ?_⟩
  · have hk : c.kind = 1 := of_decide_eq_true h1
    repeat (first | refine BCase.yes rfl ?_ | refine BCase.no rfl ?_)
    refine ⟨fun h2 => ?_, fun h2 => ?_⟩
    · have h2 : decide (IntKind.i64.wrap ((i : Int) + 1) < (n : Int)) = true := h2
      have hw : IntKind.i64.wrap ((i : Int) + 1) = ((i + 1 : Nat) : Int) := wrs i 1 (by omega)
      have h3 : i + 1 < n := by have := of_decide_eq_true h2; omega
      obtain ⟨d, hd⟩ : ∃ d, r[i + 1]? = some d := ⟨_, List.getElem?_eq_getElem (by omega)⟩
      have hd1 : (r.set i (relab l c))[i + 1]? = some d := by rw [List.getElem?_set_ne (by omega)]; exact hd
      have hidx : (decide (0 ≤ IntKind.i64.wrap ((i : Int) + 1)) && decide (IntKind.i64.wrap ((i : Int) + 1) < n)) = true := by
        rw [hw, Bool.and_eq_true]; exact ⟨decide_eq_true (by omega), decide_eq_true (by omega)⟩
      have hq : 0 + (IntKind.i64.wrap ((i : Int) + 1)).toNat * 14 + 13 = (i + 1) * 14 + 13 := by rw [hw, Nat.zero_add, Int.toNat_natCast]
      repeat (first | refine BCase.yes rfl ?_ | refine BCase.no rfl ?_)
      refine gdP hidx ?_
      refine ⟨_, ldPartE rfl hh hd1 (j := 13) rfl hq (by decide) (by decide) rfl, ?_⟩
      refine (join2_fn d.lab l).sem _ ?_
      refine gdP hidx ?_
      refine gdP ?_ ?_
      · show (true && (true && Nat.ble (0 + (IntKind.i64.wrap ((i : Int) + 1)).toNat * 14 + 13 + 1) (setL (rowF r) (i * 14 + 13) [.int .u8 (join2 c.lab l)]).length)) = true
        rw [hq, hh, hl1, Nat.ble_eq_true_of_le (by omega)]; rfl
      have hr : labR r i c l = (r.set i (relab l c)).set (i + 1) (relab l d) := by unfold labR; rw [if_pos hk, hd]
      have hfin : [some (bufB (labR r i c l))] = [some (Blk.grow 0 46 14 (setL (setL (rowF r) (i * 14 + 13) [.int .u8 (join2 c.lab l)]) (0 + (IntKind.i64.wrap ((i : Int) + 1)).toNat * 14 + 13) [.int .u8 (join2 d.lab l)]))] := by
        rw [hq, hh, rowF_part (c' := relab l d) hd1 (by show 13 + 1 ≤ 14; omega) rfl, hr]; rfl
      rw [hfin] at hQ
      exact hQ _ rfl
    · have h2 : decide (IntKind.i64.wrap ((i : Int) + 1) < (n : Int)) = false := h2
      have hw : IntKind.i64.wrap ((i : Int) + 1) = ((i + 1 : Nat) : Int) := wrs i 1 (by omega)
      have h3 : ¬ i + 1 < n := by have := of_decide_eq_false h2; omega
      have hr : labR r i c l = r.set i (relab l c) := by unfold labR; rw [if_pos hk, List.getElem?_eq_none (by omega)]
      repeat (first | refine BCase.yes rfl ?_ | refine BCase.no rfl ?_)
      have hfin : [some (bufB (labR r i c l))] = [some (Blk.grow 0 46 14 (setL (rowF r) (i * 14 + 13) [.int .u8 (join2 c.lab l)]))] := by rw [hh, hr]; rfl
      rw [hfin] at hQ
      exact hQ _ rfl
  · have hk : ¬ c.kind = 1 := of_decide_eq_false h1
    have hr : labR r i c l = r.set i (relab l c) := by unfold labR; rw [if_neg hk]
    repeat (first | refine BCase.yes rfl ?_ | refine BCase.no rfl ?_)
    have hfin : [some (bufB (labR r i c l))] = [some (Blk.grow 0 46 14 (setL (rowF r) (i * 14 + 13) [.int .u8 (join2 c.lab l)]))] := by rw [hh, hr]; rfl
    rw [hfin] at hQ
    exact hQ _ rfl
end Go.Cx
