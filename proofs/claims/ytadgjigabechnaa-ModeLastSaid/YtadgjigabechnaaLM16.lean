/- What functions of this seat compute, each for every argument of the shapes that are named; no condition beside the stated ones. -/
import Derived.Test.YtadgjigabechnaaLM10g
namespace Go.Cx
open Go.Proofs Go.RowKit
set_option maxRecDepth 100000
set_option maxHeartbeats 8000000
theorem stateOf_is (m : BitVec 16) (x : Md) {k : Nat} (h : kOf x = some k) : isOf m x = m.getLsbD k := by
  unfold isOf
  rw [state_bit, h]
  unfold stK
  cases h2 : m.getLsbD k <;> simp [h2]
theorem alt_k (x : Md) : altOf x = true ↔ kOf x = some 7 := by
  unfold altOf bOf
  rcases kOf_cases x with h | ⟨e, he, _, h⟩
  · rw [h]; simp
  · rw [h]
    simp only [keyT, List.mem_cons, List.not_mem_nil, or_false] at he
    rcases he with rfl | rfl | rfl | rfl | rfl | rfl | rfl | rfl | rfl | rfl | rfl | rfl | rfl <;> simp <;> decide
theorem one_k {x y : Md} {k : Nat} (hx : kOf x = some k) (hxy : x ≠ y) (ha : ¬ (altOf x = true ∧ altOf y = true)) : kOf y ≠ some k := by
  intro hy
  rw [alt_k, alt_k] at ha
  have h7 : k ≠ 7 := fun e => ha ⟨e ▸ hx, e ▸ hy⟩
  apply hxy
  rcases kOf_cases x with g | ⟨e, he, gx, g⟩
  · rw [hx] at g; cases g
  rcases kOf_cases y with g' | ⟨e', he', gy, g'⟩
  · rw [hy] at g'; cases g'
  rw [hx] at g
  rw [hy] at g'
  simp only [Option.some.injEq] at g g'
  have key : ∀ a ∈ keyT, ∀ b ∈ keyT, a.2.2 = b.2.2 → a.2.2 ≠ 7 → a = b := by decide
  have := key e he e' he' (by omega) (by omega)
  rw [gx, gy, this]
structure LastF (on : Bool) (m : BitVec 16) (x y : Md) : Prop where
  kn : known x = true
  first : putOf on m [x] = (putB on m (bOf x), 1)
  isx : isOf (putB on m (bOf x)) x = on
  isone : x = y ∨ (altOf x = true ∧ altOf y = true) → isOf (putB on m (bOf x)) y = on
  other1 : x ≠ y → ¬ (altOf x = true ∧ altOf y = true) → stateOf (putB on m (bOf x)) y = stateOf m y
  again : putOf on (putB on m (bOf x)) [x] = (putB on m (bOf x), 1)
  other : putOf (!on) m [x] = (putB (!on) m (bOf x), 1)
  back : putOf on (putB (!on) m (bOf x)) [x] = (putB on m (bOf x), 1)
  both : putOf on m [x, y] = ((putS on (putB on m (bOf x), 0) y).1, (putS on (putB on m (bOf x), 1) y).2)
  one2 : putOf on (putB on m (bOf x)) [y] = ((putS on (putB on m (bOf x), 0) y).1, (putS on (putB on m (bOf x), 0) y).2)
  cnt : 1 ≤ (putS on (putB on m (bOf x), 1) y).2 ∧ (putS on (putB on m (bOf x), 1) y).2 ≤ 2
  isy : isOf (putS on (putB on m (bOf x), 0) y).1 y = (on && known y)
theorem lastF (on : Bool) (m : BitVec 16) (x y : Md) (k : Nat) (hk : kOf x = some k) : LastF on m x y := by
  have hk16 := kOf_lt hk
  have kn : known x = true := by unfold known; rw [hk]; rfl
  have hb : bOf x = BitVec.twoPow 16 k := by unfold bOf; rw [hk]
  have one : ∀ (o : Bool) (w : BitVec 16), putOf o w [x] = (putB o w (bOf x), 1) := fun o w => by
    show putS o (w, 0) x = _
    unfold putS
    rw [if_pos kn]
  have bit : ∀ (o : Bool) (w : BitVec 16) (j : Nat), j < 16 → (putB o w (bOf x)).getLsbD j = if j = k then o else w.getLsbD j := fun o w j hj => by
    rw [hb]; exact putB_bit o w (by omega) j hj
  have isx : isOf (putB on m (bOf x)) x = on := by rw [stateOf_is _ _ hk, bit on m k (by omega), if_pos rfl]
  refine ⟨kn, one on m, isx, ?_, ?_, ?_, one (!on) m, ?_, ?_, rfl, ?_, ?_⟩
  · rintro (rfl | ⟨h1, h2⟩)
    · exact isx
    · rw [alt_k] at h1 h2
      have h7 : k = 7 := by rw [hk] at h1; simpa using h1
      rw [stateOf_is _ _ h2, bit on m 7 (by omega), if_pos h7.symm]
  · intro h1 h2
    have hy := one_k hk h1 h2
    rw [state_bit, state_bit]
    cases hky : kOf y with
    | none => rfl
    | some j =>
      have hj := kOf_lt hky
      have hne : j ≠ k := fun e => hy (by rw [hky, e])
      unfold stK
      simp only
      rw [bit on m j (by omega), if_neg hne]
  · rw [one on]
    congr 1
    apply BitVec.eq_of_getLsbD_eq
    intro j hj
    rw [bit _ _ j hj, bit _ _ j hj]
    split <;> rfl
  · rw [one on]
    congr 1
    apply BitVec.eq_of_getLsbD_eq
    intro j hj
    rw [bit _ _ j hj, bit _ _ j hj, bit _ _ j hj]
    split <;> rfl
  · show putS on (putS on (m, 0) x) y = _
    have : putS on (m, 0) x = (putB on m (bOf x), 1) := one on m
    rw [this]
    unfold putS
    split <;> rfl
  · unfold putS
    split <;> simp
  · cases hky : kOf y with
    | none =>
      have hkn : known y = false := by unfold known; rw [hky]; rfl
      unfold isOf
      rw [state_bit, hky, hkn]
      simp [stK]
    | some j =>
      have hj := kOf_lt hky
      have hkn : known y = true := by unfold known; rw [hky]; rfl
      rw [stateOf_is _ _ hky, putS_bit on _ y j (by omega), if_pos hky, hkn, Bool.and_true]
def mB (x : Md) : Option Blk := some (.cells 24 (mdC x))
def envQ (l : List Ac) (i : Int) : List V := .psl 2 (actsV l) .any :: .undef :: .undef :: .undef :: .ptr 0 0 :: .ptr 1 0 :: .bool false :: .ptr 2 0 :: List.replicate 21 .undef ++ .agg [.bool true, .bool false] :: .int .i64 i :: List.replicate 138 .undef
theorem last_law (l : List Ac) (hl : ∀ a ∈ l, a.ok) (hll : l.length < 9223372036854775808) (x y : Md) : Go.Cx.Sem Try.prog 6 [.psl 2 (actsV l) .any, x.v, y.v] [] fun v _ => v = .bool true := by
  refine Sem.of_body tysOk md0 Try.func6 rfl rfl ?_
  refine works.sem _ ?_
  refine BCase.no rfl ?_
  refine (played_fn l hl hll).sem _ ?_
  generalize playedOf l = m
  refine DrawP.intro tysOk mixed false ?_
  refine ⟨_, (near_fn x).callT _ _, ?_⟩
  refine ⟨_, (near_fn y).callT _ _, ?_⟩
  generalize nearOf x = x
  generalize nearOf y = y
  refine ⟨by kernel_rfl, ?_⟩
  refine LoopP.inv (md := md0) (fun k env h => ∃ (i : Nat), k = 2 - i ∧ i ≤ 2 ∧ env = envQ l i ∧ h = [mB x, mB y, wB m.toNat]) 2 ⟨envQ l 0, _, .same (by repeat (first | exact trivial | refine ⟨.inl rfl, ?_⟩ | refine ⟨.inr rfl, ?_⟩)) rfl, 0, rfl, Nat.zero_le _, rfl, rfl⟩ ?_
  rintro kk _ _ ⟨i, rfl, hi, rfl, rfl⟩
  rcases (show i = 0 ∨ i = 1 ∨ i = 2 by omega) with rfl | rfl | rfl
  · refine BCase.yes rfl ?_
    cases hk : kOf x with
    | none =>
      have hkn : known x = false := by unfold known; rw [hk]; rfl
      have f0 : putOf true m [x] = (m, 0) := by show putS true (m, 0) x = (m, 0); unfold putS; rw [hkn]; rfl
      refine (putL_fn true m [x] m 0 f0 (by simp)).sem _ ?_
      refine (known_fn x).sem _ ?_
      rw [hkn]
      repeat (first | refine BCase.yes rfl ?_ | refine BCase.no rfl ?_)
      refine BCase.no (by simp) ?_
      refine ⟨1, envQ l 1, [mB x, mB y, wB m.toNat], by decide, .cut (by repeat (first | exact trivial | refine ⟨.inl rfl, ?_⟩ | refine ⟨.inr rfl, ?_⟩)) (by show 3 ≤ 3; omega) rfl rfl, 1, rfl, by decide, rfl, rfl⟩
    | some k =>
      have f := lastF true m x y k hk
      refine (putL_fn true m [x] _ 1 f.first (by simp)).sem _ ?_
      refine (known_fn x).sem _ ?_
      rw [f.kn]
      repeat (first | refine BCase.yes rfl ?_ | refine BCase.no rfl ?_)
      refine ⟨fun hxy => ?_, fun hxy => ?_⟩
      · repeat (first | refine BCase.yes rfl ?_ | refine BCase.no rfl ?_)
        rw [md_eq] at hxy
        have hxy' := of_decide_eq_true hxy
        refine DrawP.intro tysOk mixed false ?_
        refine ⟨_, (is_fn _ x).callT _ _, ?_⟩
        rw [f.isx]
        repeat (first | refine BCase.yes rfl ?_ | refine BCase.no rfl ?_)
        refine ⟨_, (is_fn _ y).callT _ _, ?_⟩
        rw [f.isone (.inl hxy')]
        repeat (first | refine BCase.yes rfl ?_ | refine BCase.no rfl ?_)
        refine ⟨by kernel_rfl, ?_⟩
        repeat (first | refine BCase.yes rfl ?_ | refine BCase.no rfl ?_)
        refine (putL_fn true (putB true m (bOf x)) [x] _ 1 (f.again) (by simp)).sem _ ?_
        refine (putL_fn false m [x] _ 1 (f.other) (by simp)).sem _ ?_
        refine (putL_fn true (putB false m (bOf x)) [x] _ 1 (f.back) (by simp)).sem _ ?_
        refine (putL_fn true m [x, y] _ _ f.both (by simp)).sem _ ?_
        refine (putL_fn true (putB true m (bOf x)) [y] _ _ f.one2 (by simp)).sem _ ?_
        have hk1 := f.cnt
        refine BCase.no (by simp) ?_
        repeat (first | refine BCase.yes rfl ?_ | refine BCase.no rfl ?_)
        refine BCase.no (by simp) ?_
        repeat (first | refine BCase.yes rfl ?_ | refine BCase.no rfl ?_)
        refine BCase.no (by simp) ?_
        repeat (first | refine BCase.yes rfl ?_ | refine BCase.no rfl ?_)
        refine BCase.no (decide_eq_false (by omega)) ?_
        repeat (first | refine BCase.yes rfl ?_ | refine BCase.no rfl ?_)
        refine BCase.no (decide_eq_false (by omega)) ?_
        repeat (first | refine BCase.yes rfl ?_ | refine BCase.no rfl ?_)
        refine (is_fn _ y).sem _ ?_
        rw [f.isy]
        repeat (first | refine BCase.yes rfl ?_ | refine BCase.no rfl ?_)

        refine (known_fn y).sem _ ?_
        repeat (first | refine BCase.yes rfl ?_ | refine BCase.no rfl ?_)
        refine BCase.no (by simp) ?_

        refine ⟨1, envQ l 1, [mB x, mB y, wB m.toNat], by decide, .cut (by repeat (first | exact trivial | refine ⟨.inl rfl, ?_⟩ | refine ⟨.inr rfl, ?_⟩)) (by show 3 ≤ 3; omega) rfl rfl, 1, rfl, by decide, rfl, rfl⟩
      · repeat (first | refine BCase.yes rfl ?_ | refine BCase.no rfl ?_)
        rw [md_eq] at hxy
        have hxy' := of_decide_eq_false hxy
        refine (alt_fn x).sem _ ?_
        repeat (first | refine BCase.yes rfl ?_ | refine BCase.no rfl ?_)
        refine ⟨fun ha => ?_, fun ha => ?_⟩
        · repeat (first | refine BCase.yes rfl ?_ | refine BCase.no rfl ?_)
          refine (alt_fn y).sem _ ?_
          repeat (first | refine BCase.yes rfl ?_ | refine BCase.no rfl ?_)
          refine DrawP.intro tysOk mixed false ?_
          refine ⟨_, (is_fn _ x).callT _ _, ?_⟩
          rw [f.isx]
          repeat (first | refine BCase.yes rfl ?_ | refine BCase.no rfl ?_)
          refine ⟨fun hb => ?_, fun hb => ?_⟩
          · repeat (first | refine BCase.yes rfl ?_ | refine BCase.no rfl ?_)
            refine ⟨_, (is_fn _ y).callT _ _, ?_⟩
            rw [f.isone (.inr ⟨ha, hb⟩)]
            repeat (first | refine BCase.yes rfl ?_ | refine BCase.no rfl ?_)
            rw [hb]
            repeat (first | refine BCase.yes rfl ?_ | refine BCase.no rfl ?_)
            refine ⟨by kernel_rfl, ?_⟩
            repeat (first | refine BCase.yes rfl ?_ | refine BCase.no rfl ?_)
            refine (putL_fn true (putB true m (bOf x)) [x] _ 1 (f.again) (by simp)).sem _ ?_
            refine (putL_fn false m [x] _ 1 (f.other) (by simp)).sem _ ?_
            refine (putL_fn true (putB false m (bOf x)) [x] _ 1 (f.back) (by simp)).sem _ ?_
            refine (putL_fn true m [x, y] _ _ f.both (by simp)).sem _ ?_
            refine (putL_fn true (putB true m (bOf x)) [y] _ _ f.one2 (by simp)).sem _ ?_
            have hk1 := f.cnt
            refine BCase.no (by simp) ?_
            repeat (first | refine BCase.yes rfl ?_ | refine BCase.no rfl ?_)
            refine BCase.no (by simp) ?_
            repeat (first | refine BCase.yes rfl ?_ | refine BCase.no rfl ?_)
            refine BCase.no (by simp) ?_
            repeat (first | refine BCase.yes rfl ?_ | refine BCase.no rfl ?_)
            refine BCase.no (decide_eq_false (by omega)) ?_
            repeat (first | refine BCase.yes rfl ?_ | refine BCase.no rfl ?_)
            refine BCase.no (decide_eq_false (by omega)) ?_
            repeat (first | refine BCase.yes rfl ?_ | refine BCase.no rfl ?_)
            refine (is_fn _ y).sem _ ?_
            rw [f.isy]
            repeat (first | refine BCase.yes rfl ?_ | refine BCase.no rfl ?_)

            refine (known_fn y).sem _ ?_
            repeat (first | refine BCase.yes rfl ?_ | refine BCase.no rfl ?_)
            refine BCase.no (by simp) ?_

            refine ⟨1, envQ l 1, [mB x, mB y, wB m.toNat], by decide, .cut (by repeat (first | exact trivial | refine ⟨.inl rfl, ?_⟩ | refine ⟨.inr rfl, ?_⟩)) (by show 3 ≤ 3; omega) rfl rfl, 1, rfl, by decide, rfl, rfl⟩
          · repeat (first | refine BCase.yes rfl ?_ | refine BCase.no rfl ?_)
            rw [hb]
            repeat (first | refine BCase.yes rfl ?_ | refine BCase.no rfl ?_)
            refine ⟨_, (state_fn _ y).callT _ _, ?_⟩
            repeat (first | refine BCase.yes rfl ?_ | refine BCase.no rfl ?_)
            refine ⟨_, (state_fn m y).callT _ _, ?_⟩
            repeat (first | refine BCase.yes rfl ?_ | refine BCase.no rfl ?_)
            refine ⟨by kernel_rfl, ?_⟩
            refine BCase.no (by rw [f.other1 hxy' (fun h => by rw [hb] at h; cases h.2)]; simp) ?_
            repeat (first | refine BCase.yes rfl ?_ | refine BCase.no rfl ?_)
            refine (putL_fn true (putB true m (bOf x)) [x] _ 1 (f.again) (by simp)).sem _ ?_
            refine (putL_fn false m [x] _ 1 (f.other) (by simp)).sem _ ?_
            refine (putL_fn true (putB false m (bOf x)) [x] _ 1 (f.back) (by simp)).sem _ ?_
            refine (putL_fn true m [x, y] _ _ f.both (by simp)).sem _ ?_
            refine (putL_fn true (putB true m (bOf x)) [y] _ _ f.one2 (by simp)).sem _ ?_
            have hk1 := f.cnt
            refine BCase.no (by simp) ?_
            repeat (first | refine BCase.yes rfl ?_ | refine BCase.no rfl ?_)
            refine BCase.no (by simp) ?_
            repeat (first | refine BCase.yes rfl ?_ | refine BCase.no rfl ?_)
            refine BCase.no (by simp) ?_
            repeat (first | refine BCase.yes rfl ?_ | refine BCase.no rfl ?_)
            refine BCase.no (decide_eq_false (by omega)) ?_
            repeat (first | refine BCase.yes rfl ?_ | refine BCase.no rfl ?_)
            refine BCase.no (decide_eq_false (by omega)) ?_
            repeat (first | refine BCase.yes rfl ?_ | refine BCase.no rfl ?_)
            refine (is_fn _ y).sem _ ?_
            rw [f.isy]
            repeat (first | refine BCase.yes rfl ?_ | refine BCase.no rfl ?_)

            refine (known_fn y).sem _ ?_
            repeat (first | refine BCase.yes rfl ?_ | refine BCase.no rfl ?_)
            refine BCase.no (by simp) ?_

            refine ⟨1, envQ l 1, [mB x, mB y, wB m.toNat], by decide, .cut (by repeat (first | exact trivial | refine ⟨.inl rfl, ?_⟩ | refine ⟨.inr rfl, ?_⟩)) (by show 3 ≤ 3; omega) rfl rfl, 1, rfl, by decide, rfl, rfl⟩
        · repeat (first | refine BCase.yes rfl ?_ | refine BCase.no rfl ?_)
          refine DrawP.intro tysOk mixed false ?_
          refine ⟨_, (is_fn _ x).callT _ _, ?_⟩
          rw [f.isx]
          repeat (first | refine BCase.yes rfl ?_ | refine BCase.no rfl ?_)
          refine ⟨_, (state_fn _ y).callT _ _, ?_⟩
          repeat (first | refine BCase.yes rfl ?_ | refine BCase.no rfl ?_)
          refine ⟨_, (state_fn m y).callT _ _, ?_⟩
          repeat (first | refine BCase.yes rfl ?_ | refine BCase.no rfl ?_)
          refine ⟨by kernel_rfl, ?_⟩
          refine BCase.no (by rw [f.other1 hxy' (fun h => by rw [ha] at h; cases h.1)]; simp) ?_
          repeat (first | refine BCase.yes rfl ?_ | refine BCase.no rfl ?_)
          refine (putL_fn true (putB true m (bOf x)) [x] _ 1 (f.again) (by simp)).sem _ ?_
          refine (putL_fn false m [x] _ 1 (f.other) (by simp)).sem _ ?_
          refine (putL_fn true (putB false m (bOf x)) [x] _ 1 (f.back) (by simp)).sem _ ?_
          refine (putL_fn true m [x, y] _ _ f.both (by simp)).sem _ ?_
          refine (putL_fn true (putB true m (bOf x)) [y] _ _ f.one2 (by simp)).sem _ ?_
          have hk1 := f.cnt
          refine BCase.no (by simp) ?_
          repeat (first | refine BCase.yes rfl ?_ | refine BCase.no rfl ?_)
          refine BCase.no (by simp) ?_
          repeat (first | refine BCase.yes rfl ?_ | refine BCase.no rfl ?_)
          refine BCase.no (by simp) ?_
          repeat (first | refine BCase.yes rfl ?_ | refine BCase.no rfl ?_)
          refine BCase.no (decide_eq_false (by omega)) ?_
          repeat (first | refine BCase.yes rfl ?_ | refine BCase.no rfl ?_)
          refine BCase.no (decide_eq_false (by omega)) ?_
          repeat (first | refine BCase.yes rfl ?_ | refine BCase.no rfl ?_)
          refine (is_fn _ y).sem _ ?_
          rw [f.isy]
          repeat (first | refine BCase.yes rfl ?_ | refine BCase.no rfl ?_)

          refine (known_fn y).sem _ ?_
          repeat (first | refine BCase.yes rfl ?_ | refine BCase.no rfl ?_)
          refine BCase.no (by simp) ?_

          refine ⟨1, envQ l 1, [mB x, mB y, wB m.toNat], by decide, .cut (by repeat (first | exact trivial | refine ⟨.inl rfl, ?_⟩ | refine ⟨.inr rfl, ?_⟩)) (by show 3 ≤ 3; omega) rfl rfl, 1, rfl, by decide, rfl, rfl⟩
  · refine BCase.yes rfl ?_
    cases hk : kOf x with
    | none =>
      have hkn : known x = false := by unfold known; rw [hk]; rfl
      have f0 : putOf false m [x] = (m, 0) := by show putS false (m, 0) x = (m, 0); unfold putS; rw [hkn]; rfl
      refine (putL_fn false m [x] m 0 f0 (by simp)).sem _ ?_
      refine (known_fn x).sem _ ?_
      rw [hkn]
      repeat (first | refine BCase.yes rfl ?_ | refine BCase.no rfl ?_)
      refine BCase.no (by simp) ?_
      refine ⟨0, envQ l 2, [mB x, mB y, wB m.toNat], by decide, .cut (by repeat (first | exact trivial | refine ⟨.inl rfl, ?_⟩ | refine ⟨.inr rfl, ?_⟩)) (by show 3 ≤ 3; omega) rfl rfl, 2, rfl, by decide, rfl, rfl⟩
    | some k =>
      have f := lastF false m x y k hk
      refine (putL_fn false m [x] _ 1 f.first (by simp)).sem _ ?_
      refine (known_fn x).sem _ ?_
      rw [f.kn]
      repeat (first | refine BCase.yes rfl ?_ | refine BCase.no rfl ?_)
      refine ⟨fun hxy => ?_, fun hxy => ?_⟩
      · repeat (first | refine BCase.yes rfl ?_ | refine BCase.no rfl ?_)
        rw [md_eq] at hxy
        have hxy' := of_decide_eq_true hxy
        refine DrawP.intro tysOk mixed false ?_
        refine ⟨_, (is_fn _ x).callT _ _, ?_⟩
        rw [f.isx]
        repeat (first | refine BCase.yes rfl ?_ | refine BCase.no rfl ?_)
        refine ⟨_, (is_fn _ y).callT _ _, ?_⟩
        rw [f.isone (.inl hxy')]
        repeat (first | refine BCase.yes rfl ?_ | refine BCase.no rfl ?_)
        refine ⟨by kernel_rfl, ?_⟩
        repeat (first | refine BCase.yes rfl ?_ | refine BCase.no rfl ?_)
        refine (putL_fn false (putB false m (bOf x)) [x] _ 1 (f.again) (by simp)).sem _ ?_
        refine (putL_fn true m [x] _ 1 (f.other) (by simp)).sem _ ?_
        refine (putL_fn false (putB true m (bOf x)) [x] _ 1 (f.back) (by simp)).sem _ ?_
        refine (putL_fn false m [x, y] _ _ f.both (by simp)).sem _ ?_
        refine (putL_fn false (putB false m (bOf x)) [y] _ _ f.one2 (by simp)).sem _ ?_
        have hk1 := f.cnt
        refine BCase.no (by simp) ?_
        repeat (first | refine BCase.yes rfl ?_ | refine BCase.no rfl ?_)
        refine BCase.no (by simp) ?_
        repeat (first | refine BCase.yes rfl ?_ | refine BCase.no rfl ?_)
        refine BCase.no (by simp) ?_
        repeat (first | refine BCase.yes rfl ?_ | refine BCase.no rfl ?_)
        refine BCase.no (decide_eq_false (by omega)) ?_
        repeat (first | refine BCase.yes rfl ?_ | refine BCase.no rfl ?_)
        refine BCase.no (decide_eq_false (by omega)) ?_
        repeat (first | refine BCase.yes rfl ?_ | refine BCase.no rfl ?_)
        refine (is_fn _ y).sem _ ?_
        rw [f.isy]
        repeat (first | refine BCase.yes rfl ?_ | refine BCase.no rfl ?_)

        refine ⟨0, envQ l 2, [mB x, mB y, wB m.toNat], by decide, .cut (by repeat (first | exact trivial | refine ⟨.inl rfl, ?_⟩ | refine ⟨.inr rfl, ?_⟩)) (by show 3 ≤ 3; omega) rfl rfl, 2, rfl, by decide, rfl, rfl⟩
      · repeat (first | refine BCase.yes rfl ?_ | refine BCase.no rfl ?_)
        rw [md_eq] at hxy
        have hxy' := of_decide_eq_false hxy
        refine (alt_fn x).sem _ ?_
        repeat (first | refine BCase.yes rfl ?_ | refine BCase.no rfl ?_)
        refine ⟨fun ha => ?_, fun ha => ?_⟩
        · repeat (first | refine BCase.yes rfl ?_ | refine BCase.no rfl ?_)
          refine (alt_fn y).sem _ ?_
          repeat (first | refine BCase.yes rfl ?_ | refine BCase.no rfl ?_)
          refine DrawP.intro tysOk mixed false ?_
          refine ⟨_, (is_fn _ x).callT _ _, ?_⟩
          rw [f.isx]
          repeat (first | refine BCase.yes rfl ?_ | refine BCase.no rfl ?_)
          refine ⟨fun hb => ?_, fun hb => ?_⟩
          · repeat (first | refine BCase.yes rfl ?_ | refine BCase.no rfl ?_)
            refine ⟨_, (is_fn _ y).callT _ _, ?_⟩
            rw [f.isone (.inr ⟨ha, hb⟩)]
            repeat (first | refine BCase.yes rfl ?_ | refine BCase.no rfl ?_)
            rw [hb]
            repeat (first | refine BCase.yes rfl ?_ | refine BCase.no rfl ?_)
            refine ⟨by kernel_rfl, ?_⟩
            repeat (first | refine BCase.yes rfl ?_ | refine BCase.no rfl ?_)
            refine (putL_fn false (putB false m (bOf x)) [x] _ 1 (f.again) (by simp)).sem _ ?_
            refine (putL_fn true m [x] _ 1 (f.other) (by simp)).sem _ ?_
            refine (putL_fn false (putB true m (bOf x)) [x] _ 1 (f.back) (by simp)).sem _ ?_
            refine (putL_fn false m [x, y] _ _ f.both (by simp)).sem _ ?_
            refine (putL_fn false (putB false m (bOf x)) [y] _ _ f.one2 (by simp)).sem _ ?_
            have hk1 := f.cnt
            refine BCase.no (by simp) ?_
            repeat (first | refine BCase.yes rfl ?_ | refine BCase.no rfl ?_)
            refine BCase.no (by simp) ?_
            repeat (first | refine BCase.yes rfl ?_ | refine BCase.no rfl ?_)
            refine BCase.no (by simp) ?_
            repeat (first | refine BCase.yes rfl ?_ | refine BCase.no rfl ?_)
            refine BCase.no (decide_eq_false (by omega)) ?_
            repeat (first | refine BCase.yes rfl ?_ | refine BCase.no rfl ?_)
            refine BCase.no (decide_eq_false (by omega)) ?_
            repeat (first | refine BCase.yes rfl ?_ | refine BCase.no rfl ?_)
            refine (is_fn _ y).sem _ ?_
            rw [f.isy]
            repeat (first | refine BCase.yes rfl ?_ | refine BCase.no rfl ?_)

            refine ⟨0, envQ l 2, [mB x, mB y, wB m.toNat], by decide, .cut (by repeat (first | exact trivial | refine ⟨.inl rfl, ?_⟩ | refine ⟨.inr rfl, ?_⟩)) (by show 3 ≤ 3; omega) rfl rfl, 2, rfl, by decide, rfl, rfl⟩
          · repeat (first | refine BCase.yes rfl ?_ | refine BCase.no rfl ?_)
            rw [hb]
            repeat (first | refine BCase.yes rfl ?_ | refine BCase.no rfl ?_)
            refine ⟨_, (state_fn _ y).callT _ _, ?_⟩
            repeat (first | refine BCase.yes rfl ?_ | refine BCase.no rfl ?_)
            refine ⟨_, (state_fn m y).callT _ _, ?_⟩
            repeat (first | refine BCase.yes rfl ?_ | refine BCase.no rfl ?_)
            refine ⟨by kernel_rfl, ?_⟩
            refine BCase.no (by rw [f.other1 hxy' (fun h => by rw [hb] at h; cases h.2)]; simp) ?_
            repeat (first | refine BCase.yes rfl ?_ | refine BCase.no rfl ?_)
            refine (putL_fn false (putB false m (bOf x)) [x] _ 1 (f.again) (by simp)).sem _ ?_
            refine (putL_fn true m [x] _ 1 (f.other) (by simp)).sem _ ?_
            refine (putL_fn false (putB true m (bOf x)) [x] _ 1 (f.back) (by simp)).sem _ ?_
            refine (putL_fn false m [x, y] _ _ f.both (by simp)).sem _ ?_
            refine (putL_fn false (putB false m (bOf x)) [y] _ _ f.one2 (by simp)).sem _ ?_
            have hk1 := f.cnt
            refine BCase.no (by simp) ?_
            repeat (first | refine BCase.yes rfl ?_ | refine BCase.no rfl ?_)
            refine BCase.no (by simp) ?_
            repeat (first | refine BCase.yes rfl ?_ | refine BCase.no rfl ?_)
            refine BCase.no (by simp) ?_
            repeat (first | refine BCase.yes rfl ?_ | refine BCase.no rfl ?_)
            refine BCase.no (decide_eq_false (by omega)) ?_
            repeat (first | refine BCase.yes rfl ?_ | refine BCase.no rfl ?_)
            refine BCase.no (decide_eq_false (by omega)) ?_
            repeat (first | refine BCase.yes rfl ?_ | refine BCase.no rfl ?_)
            refine (is_fn _ y).sem _ ?_
            rw [f.isy]
            repeat (first | refine BCase.yes rfl ?_ | refine BCase.no rfl ?_)

            refine ⟨0, envQ l 2, [mB x, mB y, wB m.toNat], by decide, .cut (by repeat (first | exact trivial | refine ⟨.inl rfl, ?_⟩ | refine ⟨.inr rfl, ?_⟩)) (by show 3 ≤ 3; omega) rfl rfl, 2, rfl, by decide, rfl, rfl⟩
        · repeat (first | refine BCase.yes rfl ?_ | refine BCase.no rfl ?_)
          refine DrawP.intro tysOk mixed false ?_
          refine ⟨_, (is_fn _ x).callT _ _, ?_⟩
          rw [f.isx]
          repeat (first | refine BCase.yes rfl ?_ | refine BCase.no rfl ?_)
          refine ⟨_, (state_fn _ y).callT _ _, ?_⟩
          repeat (first | refine BCase.yes rfl ?_ | refine BCase.no rfl ?_)
          refine ⟨_, (state_fn m y).callT _ _, ?_⟩
          repeat (first | refine BCase.yes rfl ?_ | refine BCase.no rfl ?_)
          refine ⟨by kernel_rfl, ?_⟩
          refine BCase.no (by rw [f.other1 hxy' (fun h => by rw [ha] at h; cases h.1)]; simp) ?_
          repeat (first | refine BCase.yes rfl ?_ | refine BCase.no rfl ?_)
          refine (putL_fn false (putB false m (bOf x)) [x] _ 1 (f.again) (by simp)).sem _ ?_
          refine (putL_fn true m [x] _ 1 (f.other) (by simp)).sem _ ?_
          refine (putL_fn false (putB true m (bOf x)) [x] _ 1 (f.back) (by simp)).sem _ ?_
          refine (putL_fn false m [x, y] _ _ f.both (by simp)).sem _ ?_
          refine (putL_fn false (putB false m (bOf x)) [y] _ _ f.one2 (by simp)).sem _ ?_
          have hk1 := f.cnt
          refine BCase.no (by simp) ?_
          repeat (first | refine BCase.yes rfl ?_ | refine BCase.no rfl ?_)
          refine BCase.no (by simp) ?_
          repeat (first | refine BCase.yes rfl ?_ | refine BCase.no rfl ?_)
          refine BCase.no (by simp) ?_
          repeat (first | refine BCase.yes rfl ?_ | refine BCase.no rfl ?_)
          refine BCase.no (decide_eq_false (by omega)) ?_
          repeat (first | refine BCase.yes rfl ?_ | refine BCase.no rfl ?_)
          refine BCase.no (decide_eq_false (by omega)) ?_
          repeat (first | refine BCase.yes rfl ?_ | refine BCase.no rfl ?_)
          refine (is_fn _ y).sem _ ?_
          rw [f.isy]
          repeat (first | refine BCase.yes rfl ?_ | refine BCase.no rfl ?_)

          refine ⟨0, envQ l 2, [mB x, mB y, wB m.toNat], by decide, .cut (by repeat (first | exact trivial | refine ⟨.inl rfl, ?_⟩ | refine ⟨.inr rfl, ?_⟩)) (by show 3 ≤ 3; omega) rfl rfl, 2, rfl, by decide, rfl, rfl⟩
  · refine BCase.no rfl ?_
    rfl
end Go.Cx
