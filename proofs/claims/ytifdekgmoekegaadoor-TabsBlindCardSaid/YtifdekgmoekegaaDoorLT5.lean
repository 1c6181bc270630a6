/- What functions of this seat compute, each for every argument of the shapes that are named; no condition beside the stated ones. -/
import Derived.Test.YtifdekgmoekegaaDoorLT4
import Derived.Laws.Bits64
namespace Go.Cx
open Go.Proofs
set_option maxRecDepth 100000
set_option maxHeartbeats 400000
/-! ### Words -/
theorem wr64 {n : Int} (h0 : -9223372036854775808 ≤ n) (h1 : n < 9223372036854775808) : IntKind.i64.wrap n = n := by
  rw [IntKind.wrap_i64]; omega
theorem wru {n : Int} (h0 : 0 ≤ n) (h1 : n < 18446744073709551616) : IntKind.u64.wrap n = n := by
  rw [IntKind.wrap_u64]; omega
theorem td64 (c : Nat) (hc : c < 512) : IntKind.i64.wrap ((c : Int).tdiv 64) = ((c / 64 : Nat) : Int) := by
  have : (c : Int).tdiv 64 = ((c / 64 : Nat) : Int) := by rw [Int.tdiv_eq_ediv_of_nonneg (by omega)]; rfl
  rw [this, wr64] <;> omega
theorem tm64 (c : Nat) : ((c : Int).tmod 64) = ((c % 64 : Nat) : Int) := by
  rw [Int.tmod_eq_emod_of_nonneg (by omega)]; rfl

def bitW (c : Nat) : BitVec 64 := BitVec.ofNat 64 (2 ^ (c % 64))
def clrW (x c : Nat) : Nat := (BitVec.ofNat 64 x &&& ~~~ bitW c).toNat
def setW (x c : Nat) : Nat := (BitVec.ofNat 64 x ||| bitW c).toNat
def getW (x c : Nat) : Bool := x.testBit (c % 64)

theorem pow_min (c : Nat) : IntKind.u64.wrap (1 * 2 ^ min ((c : Int).tmod 64).toNat IntKind.u64.bits) = ((2 ^ (c % 64) : Nat) : Int) := by
  have hb : IntKind.u64.bits = 64 := rfl
  have hlt : c % 64 < 64 := Nat.mod_lt _ (by omega)
  rw [tm64, hb, Int.toNat_natCast, Nat.min_eq_left (by omega), Int.one_mul]
  have h2 : ((2 : Int) ^ (c % 64)) = ((2 ^ (c % 64) : Nat) : Int) := by simp
  rw [h2]
  refine wru (Int.natCast_nonneg _) ?_
  have : 2 ^ (c % 64) < 2 ^ 64 := Nat.pow_lt_pow_right (by omega) hlt
  omega
theorem bv_nat (x : Nat) : BitVec.ofInt IntKind.u64.bits (x : Int) = BitVec.ofNat 64 x := BitVec.ofInt_natCast 64 x
theorem clr_eq (x c : Nat) : IntKind.u64.wrap (BitVec.ofInt IntKind.u64.bits (x : Int) &&& ~~~ BitVec.ofInt IntKind.u64.bits (IntKind.u64.wrap (1 * 2 ^ min ((c : Int).tmod 64).toNat IntKind.u64.bits))).toNat = ((clrW x c : Nat) : Int) := by
  rw [pow_min, bv_nat, bv_nat]
  have h : (BitVec.ofNat 64 x &&& ~~~ bitW c).toNat < 18446744073709551616 := (BitVec.ofNat 64 x &&& ~~~ bitW c).isLt
  exact wru (Int.natCast_nonneg _) (Int.ofNat_lt.2 h)
theorem set_eq (x c : Nat) : IntKind.u64.wrap (BitVec.ofInt IntKind.u64.bits (x : Int) ||| BitVec.ofInt IntKind.u64.bits (IntKind.u64.wrap (1 * 2 ^ min ((c : Int).tmod 64).toNat IntKind.u64.bits))).toNat = ((setW x c : Nat) : Int) := by
  rw [pow_min, bv_nat, bv_nat]
  have h : (BitVec.ofNat 64 x ||| bitW c).toNat < 18446744073709551616 := (BitVec.ofNat 64 x ||| bitW c).isLt
  exact wru (Int.natCast_nonneg _) (Int.ofNat_lt.2 h)
theorem clrW_lt (x c : Nat) : clrW x c < 2 ^ 64 := BitVec.isLt _
theorem setW_lt (x c : Nat) : setW x c < 2 ^ 64 := BitVec.isLt _
theorem clrW_bit (x c b : Nat) (hb : b < 64) : (clrW x c).testBit b = (x.testBit b && !decide (b = c % 64)) := by
  unfold clrW bitW
  rw [← BitVec.getLsbD, BitVec.getLsbD_and, BitVec.getLsbD_not, BitVec.getLsbD_ofNat, BitVec.getLsbD_ofNat, Nat.testBit_two_pow]
  have hlt : c % 64 < 64 := Nat.mod_lt _ (by omega)
  simp [hb, eq_comm]
theorem setW_bit (x c b : Nat) (hb : b < 64) : (setW x c).testBit b = (x.testBit b || decide (b = c % 64)) := by
  unfold setW bitW
  rw [← BitVec.getLsbD, BitVec.getLsbD_or, BitVec.getLsbD_ofNat, BitVec.getLsbD_ofNat, Nat.testBit_two_pow]
  simp [hb, eq_comm]
/-! ### Bits, by columns -/
def bit (w : Nat → Nat) (c : Nat) : Bool := (w (c / 64)).testBit (c % 64)
def clr (w : Nat → Nat) (c : Nat) : Nat → Nat := upd w (c / 64) (clrW (w (c / 64)) c)
def sett (w : Nat → Nat) (c : Nat) : Nat → Nat := upd w (c / 64) (setW (w (c / 64)) c)
theorem clr_bit (w : Nat → Nat) (c d : Nat) : bit (clr w c) d = (bit w d && !decide (d = c)) := by
  have hlt : d % 64 < 64 := Nat.mod_lt _ (by omega)
  unfold bit clr upd
  by_cases h : d / 64 = c / 64
  · rw [if_pos h, clrW_bit _ _ _ hlt, h]
    congr 2
    simp only [decide_eq_decide]
    omega
  · rw [if_neg h]
    have : ¬ d = c := fun e => h (by rw [e])
    simp [this]
theorem sett_bit (w : Nat → Nat) (c d : Nat) : bit (sett w c) d = (bit w d || decide (d = c)) := by
  have hlt : d % 64 < 64 := Nat.mod_lt _ (by omega)
  unfold bit sett upd
  by_cases h : d / 64 = c / 64
  · rw [if_pos h, setW_bit _ _ _ hlt, h]
    congr 1
    simp only [decide_eq_decide]
    omega
  · rw [if_neg h]
    have : ¬ d = c := fun e => h (by rw [e])
    simp [this]
def okW (w : Nat → Nat) : Prop := ∀ i, w i < 2 ^ 64
theorem clr_ok {w : Nat → Nat} (h : okW w) (c : Nat) : okW (clr w c) := fun i => by
  unfold clr upd
  split
  · exact clrW_lt _ _
  · exact h i
theorem sett_ok {w : Nat → Nat} (h : okW w) (c : Nat) : okW (sett w c) := fun i => by
  unfold sett upd
  split
  · exact setW_lt _ _
  · exact h i
theorem words_ext {w u : Nat → Nat} (hw : okW w) (hu : okW u) {n : Nat} (h : ∀ c, c < 64 * n → bit w c = bit u c) : ∀ i, i < n → w i = u i := fun i hi => by
  apply Nat.eq_of_testBit_eq
  intro b
  rcases Nat.lt_or_ge b 64 with hb | hb
  · have := h (64 * i + b) (by omega)
    unfold bit at this
    rw [show (64 * i + b) / 64 = i by omega, show (64 * i + b) % 64 = b by omega] at this
    exact this
  · rw [Nat.testBit_lt_two_pow (Nat.lt_of_lt_of_le (hw i) (Nat.pow_le_pow_right (by omega) hb)), Nat.testBit_lt_two_pow (Nat.lt_of_lt_of_le (hu i) (Nat.pow_le_pow_right (by omega) hb))]
end Go.Cx
