/- What functions of this seat compute, each for every argument of the shapes that are named; no condition beside the stated ones. -/
import Derived.Test.YtifdekgmoekegaaDoorLT6
namespace Go.Cx
open Go.Proofs
set_option maxRecDepth 100000
set_option maxHeartbeats 1000000

def jn2 (x y : Int) : Int := if x > 0 ∨ y > 0 then 1 else 0
theorem join2_fn (x y : Int) : Fn Tryd.prog 31 [.psl 1 [[.int .u8 x], [.int .u8 y]] .exact] (.int .u8 (jn2 x y)) := by
  refine Fn.of_body tysOk md0 Tryd.func31 rfl rfl rfl rfl ?_
  refine Sem.of_body tysOk md0 Tryd.func36 rfl rfl ?_
  refine LoopP.unroll (md := md0) ?_
  refine BCase.yes rfl ?_
  refine ⟨_, ⟨by decide, rfl⟩, ?_⟩
  refine Sem.of_body tysOk md0 Tryd.func37 rfl rfl ?_
  refine ⟨fun h => ?_, fun h => ?_⟩
  · have hx : x > 0 := by simpa using h
    refine Sem.of_body tysOk md0 Tryd.func35 rfl rfl ?_
    refine BCase.yes rfl ?_
    show V.int .u8 1 = _
    rw [show jn2 x y = 1 by simp [jn2, hx]]
  · have hx : ¬ x > 0 := by simpa using h
    refine LoopP.unroll (md := md0) ?_
    refine BCase.yes rfl ?_
    refine ⟨_, ⟨by decide, rfl⟩, ?_⟩
    refine Sem.of_body tysOk md0 Tryd.func37 rfl rfl ?_
    refine ⟨fun h => ?_, fun h => ?_⟩
    · have hy : y > 0 := by simpa using h
      refine Sem.of_body tysOk md0 Tryd.func35 rfl rfl ?_
      refine BCase.yes rfl ?_
      show V.int .u8 1 = _
      rw [show jn2 x y = 1 by simp [jn2, hy]]
    · have hy : ¬ y > 0 := by simpa using h
      refine LoopP.unroll (md := md0) ?_
      refine BCase.no rfl ?_
      refine Sem.of_body tysOk md0 Tryd.func35 rfl rfl ?_
      refine BCase.no rfl ?_
      show V.int .u8 0 = _
      rw [show jn2 x y = 0 by simp [jn2, hx, hy]]
def Tb.raise (t : Tb) (l : Int) : Tb := ⟨t.w, t.cols, jn2 t.lab l, t.base⟩
def Tb.decl (t : Tb) : Tb := ⟨t.w, t.cols, t.base, t.base⟩
def Tb.none (t : Tb) : Tb := ⟨fun _ => 0, t.cols, t.base, t.base⟩
def Tb.there (t : Tb) (c : Int) : Bool := decide (0 ≤ c) && decide (c < t.cols)
def Tb.has (t : Tb) (c : Int) : Bool := t.there c && bit t.w c.toNat
theorem raise_fn (t : Tb) (l : Int) : Fn Tryd.prog 23 [t.v, .int .u8 l] (t.raise l).v := by
  refine Fn.of_body tysOk md0 Tryd.func23 rfl rfl rfl rfl ?_
  refine (join2_fn t.lab l).sem _ ?_
  rfl
theorem decl_fn (t : Tb) : Fn Tryd.prog 22 [t.v] t.decl.v := by
  refine Fn.of_body tysOk md0 Tryd.func22 rfl rfl rfl rfl ?_
  rfl
theorem none_fn (t : Tb) : Fn Tryd.prog 25 [t.v] t.none.v := by
  refine Fn.of_body tysOk md0 Tryd.func25 rfl rfl rfl rfl ?_
  refine (decl_fn ⟨fun _ => 0, t.cols, t.lab, t.base⟩).sem _ ?_
  rfl
theorem cols_fn (t : Tb) : Fn Tryd.prog 12 [t.v] (.int .i64 t.cols) := by
  refine Fn.of_body tysOk md0 Tryd.func12 rfl rfl rfl rfl ?_
  rfl
theorem label_fn (t : Tb) : Fn Tryd.prog 16 [t.v] (.int .u8 t.lab) := by
  refine Fn.of_body tysOk md0 Tryd.func16 rfl rfl rfl rfl ?_
  rfl
def lastI (t : Tb) : Int := max 0 (t.cols - 1)
theorem last_fn (t : Tb) (ht : t.ok) : Fn Tryd.prog 27 [t.v] (.int .i64 (lastI t)) := by
  have := ht.c0
  have := ht.c1
  refine Fn.of_body tysOk md0 Tryd.func27 rfl rfl rfl rfl ?_
  show V.int .i64 _ = _
  rw [wr64 (n := t.cols - 1) (by omega) (by omega)]
  unfold lastI
  congr 1
  split <;> omega
theorem there_fn (t : Tb) (c : Int) : Fn Tryd.prog 29 [t.v, .int .i64 c] (.bool (t.there c)) := by
  refine Fn.of_body tysOk md0 Tryd.func29 rfl rfl rfl rfl ?_
  refine ⟨fun h => ?_, fun h => ?_⟩
  · have h0 : 0 ≤ c := by simpa using h
    repeat (first | refine BCase.yes rfl ?_ | refine BCase.no rfl ?_)
    show V.bool _ = _
    unfold Tb.there
    simp [h0]
  · have h0 : ¬ 0 ≤ c := by simpa using h
    repeat (first | refine BCase.yes rfl ?_ | refine BCase.no rfl ?_)
    show V.bool _ = _
    unfold Tb.there
    simp [h0]
theorem shr_bit (x c : Nat) (_hx : x < 2 ^ 64) : (IntKind.u64.wrap ((BitVec.ofInt IntKind.u64.bits ((x : Int).fdiv (2 ^ min ((c : Int).tmod 64).toNat IntKind.u64.bits)) &&& BitVec.ofInt IntKind.u64.bits 1).toNat) == 1) = x.testBit (c % 64) := by
  have hb : IntKind.u64.bits = 64 := rfl
  have hlt : c % 64 < 64 := Nat.mod_lt _ (by omega)
  rw [tm64, Int.toNat_natCast, hb, Nat.min_eq_left (by omega)]
  have h2 : ((2 : Int) ^ (c % 64)) = ((2 ^ (c % 64) : Nat) : Int) := by simp
  have h3 : (x : Int).fdiv ((2 ^ (c % 64) : Nat) : Int) = ((x / 2 ^ (c % 64) : Nat) : Int) := by
    rw [Int.fdiv_eq_ediv_of_nonneg _ (Int.natCast_nonneg _)]; rfl
  rw [h2, h3]
  have h4 : BitVec.ofInt 64 ((x / 2 ^ (c % 64) : Nat) : Int) = BitVec.ofNat 64 (x / 2 ^ (c % 64)) := BitVec.ofInt_natCast 64 _
  have h5 : BitVec.ofInt 64 1 = BitVec.ofNat 64 1 := rfl
  rw [h4, h5]
  have h6 : (BitVec.ofNat 64 (x / 2 ^ (c % 64)) &&& BitVec.ofNat 64 1).toNat = (x / 2 ^ (c % 64)) % 2 := by
    rw [BitVec.toNat_and, BitVec.toNat_ofNat, BitVec.toNat_ofNat]
    rw [show 1 % 2 ^ 64 = 1 by rfl, Nat.and_one_is_mod]
    omega
  rw [h6, wru (Int.natCast_nonneg _) (by omega), Nat.testBit_eq_decide_div_mod_eq]
  rcases Nat.mod_two_eq_zero_or_one (x / 2 ^ (c % 64)) with h | h <;> rw [h] <;> rfl
theorem has_fn (t : Tb) (ht : t.ok) (c : Int) : Fn Tryd.prog 14 [t.v, .int .i64 c] (.bool (t.has c)) := by
  have hc0 := ht.c0
  have hc1 := ht.c1
  refine Fn.of_body tysOk md0 Tryd.func14 rfl rfl rfl rfl ?_
  refine (there_fn t c).sem _ ?_
  refine ⟨fun h => ?_, fun h => ?_⟩
  · unfold Tb.has
    rw [h]
    unfold Tb.there at h
    simp only [Bool.and_eq_true, decide_eq_true_eq] at h
    obtain ⟨n, rfl⟩ : ∃ n : Nat, c = (n : Int) := ⟨c.toNat, by omega⟩
    have e1 := td64 n (by omega)
    rw [Int.toNat_natCast]
    repeat (first | refine BCase.yes rfl ?_ | refine BCase.no rfl ?_)
    rcases split8 (show n / 64 < 8 by omega) with hi | hi | hi | hi | hi | hi | hi | hi
    · rw [hi] at e1
      refine gdP (by rw [e1]; rfl) ?_
      rw [e1]
      repeat (first | refine BCase.yes rfl ?_ | refine BCase.no rfl ?_)
      show V.bool _ = _
      have := shr_bit (t.w 0) n (ht.w 0)
      unfold bit
      rw [hi]
      exact congrArg V.bool this
    · rw [hi] at e1
      refine gdP (by rw [e1]; rfl) ?_
      rw [e1]
      repeat (first | refine BCase.yes rfl ?_ | refine BCase.no rfl ?_)
      show V.bool _ = _
      have := shr_bit (t.w 1) n (ht.w 1)
      unfold bit
      rw [hi]
      exact congrArg V.bool this
    · rw [hi] at e1
      refine gdP (by rw [e1]; rfl) ?_
      rw [e1]
      repeat (first | refine BCase.yes rfl ?_ | refine BCase.no rfl ?_)
      show V.bool _ = _
      have := shr_bit (t.w 2) n (ht.w 2)
      unfold bit
      rw [hi]
      exact congrArg V.bool this
    · rw [hi] at e1
      refine gdP (by rw [e1]; rfl) ?_
      rw [e1]
      repeat (first | refine BCase.yes rfl ?_ | refine BCase.no rfl ?_)
      show V.bool _ = _
      have := shr_bit (t.w 3) n (ht.w 3)
      unfold bit
      rw [hi]
      exact congrArg V.bool this
    · rw [hi] at e1
      refine gdP (by rw [e1]; rfl) ?_
      rw [e1]
      repeat (first | refine BCase.yes rfl ?_ | refine BCase.no rfl ?_)
      show V.bool _ = _
      have := shr_bit (t.w 4) n (ht.w 4)
      unfold bit
      rw [hi]
      exact congrArg V.bool this
    · rw [hi] at e1
      refine gdP (by rw [e1]; rfl) ?_
      rw [e1]
      repeat (first | refine BCase.yes rfl ?_ | refine BCase.no rfl ?_)
      show V.bool _ = _
      have := shr_bit (t.w 5) n (ht.w 5)
      unfold bit
      rw [hi]
      exact congrArg V.bool this
    · rw [hi] at e1
      refine gdP (by rw [e1]; rfl) ?_
      rw [e1]
      repeat (first | refine BCase.yes rfl ?_ | refine BCase.no rfl ?_)
      show V.bool _ = _
      have := shr_bit (t.w 6) n (ht.w 6)
      unfold bit
      rw [hi]
      exact congrArg V.bool this
    · rw [hi] at e1
      refine gdP (by rw [e1]; rfl) ?_
      rw [e1]
      repeat (first | refine BCase.yes rfl ?_ | refine BCase.no rfl ?_)
      show V.bool _ = _
      have := shr_bit (t.w 7) n (ht.w 7)
      unfold bit
      rw [hi]
      exact congrArg V.bool this
  · unfold Tb.has
    rw [h]
    repeat (first | refine BCase.yes rfl ?_ | refine BCase.no rfl ?_)
    rfl
theorem new_fn (n base : Int) : Fn Tryd.prog 9 [.int .i64 n, .int .u8 base] (Tb.resize ⟨fun _ => 0, 0, base, base⟩ n).v := by
  refine Fn.of_body tysOk md0 Tryd.func9 rfl rfl rfl rfl ?_
  refine (resize_fn ⟨fun _ => 0, 0, base, base⟩ ⟨Int.le_refl _, by show (0 : Int) ≤ 512; omega, fun _ => by simp⟩ n).sem _ ?_
  rfl
end Go.Cx
