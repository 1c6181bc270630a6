/- What functions of this seat compute, each for every argument of the shapes that are named; no condition beside the stated ones. -/
import Derived.Test.YtifdekgmoekegaaDoorLT1g
import Derived.Test.YtifdekgmoekegaaDoorCx17g
import Derived.Laws.BitsLemmas
import Derived.Laws.Bits64
namespace Go.Cx
open Go.Proofs
set_option maxRecDepth 100000
set_option maxHeartbeats 4000000

/-! ### Tab stops: bits, by columns -/
structure Tb where
  w : Nat → Nat
  cols : Int
  lab : Int
  base : Int
def Tb.cs (t : Tb) : List V := [.int .u64 (t.w 0 : Nat), .int .u64 (t.w 1 : Nat), .int .u64 (t.w 2 : Nat), .int .u64 (t.w 3 : Nat), .int .u64 (t.w 4 : Nat), .int .u64 (t.w 5 : Nat), .int .u64 (t.w 6 : Nat), .int .u64 (t.w 7 : Nat), .int .i64 t.cols, .int .u8 t.lab, .int .u8 t.base]
def Tb.v (t : Tb) : V := .agg t.cs
def upd (w : Nat → Nat) (i x : Nat) : Nat → Nat := fun j => if j = i then x else w j
def md0 : Nat → Bool := fun _ => false
noncomputable abbrev TT := tysT.get none
noncomputable def code24 : Code := match Tryd.f24.body with | some c => c | none => .skip
def tails : Code → Nat → Code
  | c, 0 => c
  | .seq _ c, n + 1 => tails c n
  | c, _ + 1 => c

end Go.Cx
namespace Go.Cx
open Go.Proofs
set_option maxRecDepth 100000
set_option maxHeartbeats 400000
/-! ### Words -/
theorem wr64 {n : Int} (h0 : -9223372036854775808 ≤ n) (h1 : n < 9223372036854775808) : IntKind.i64.wrap n = n := by
  rw [IntKind.wrap_i64]; omega
theorem wru {n : Int} (h0 : 0 ≤ n) (h1 : n < 18446744073709551616) : IntKind.u64.wrap n = n := by
  rw [IntKind.wrap_u64]; omega
theorem td64 (c : Nat) (hc : c < 512) : IntKind.i64.wrap ((c : Int).tdiv 64) = ((c / 64 : Nat) : Int) := by
  have : (c : Int).tdiv 64 = ((c / 64 : Nat) : Int) := by rw [Int.tdiv_eq_ediv_of_nonneg (by omega)]; rfl
  rw [this, wr64] <;> omega
theorem tm64 (c : Nat) : ((c : Int).tmod 64) = ((c % 64 : Nat) : Int) := by
  rw [Int.tmod_eq_emod_of_nonneg (by omega)]; rfl

def bitW (c : Nat) : BitVec 64 := BitVec.ofNat 64 (2 ^ (c % 64))
def clrW (x c : Nat) : Nat := (BitVec.ofNat 64 x &&& ~~~ bitW c).toNat
def setW (x c : Nat) : Nat := (BitVec.ofNat 64 x ||| bitW c).toNat
def getW (x c : Nat) : Bool := x.testBit (c % 64)

theorem pow_min (c : Nat) : IntKind.u64.wrap (1 * 2 ^ min ((c : Int).tmod 64).toNat IntKind.u64.bits) = ((2 ^ (c % 64) : Nat) : Int) := by
  have hb : IntKind.u64.bits = 64 := rfl
  have hlt : c % 64 < 64 := Nat.mod_lt _ (by omega)
  rw [tm64, hb, Int.toNat_natCast, Nat.min_eq_left (by omega), Int.one_mul]
  have h2 : ((2 : Int) ^ (c % 64)) = ((2 ^ (c % 64) : Nat) : Int) := by simp
  rw [h2]
  refine wru (Int.natCast_nonneg _) ?_
  have : 2 ^ (c % 64) < 2 ^ 64 := Nat.pow_lt_pow_right (by omega) hlt
  omega
theorem bv_nat (x : Nat) : BitVec.ofInt IntKind.u64.bits (x : Int) = BitVec.ofNat 64 x := BitVec.ofInt_natCast 64 x
theorem clr_eq (x c : Nat) : IntKind.u64.wrap (BitVec.ofInt IntKind.u64.bits (x : Int) &&& ~~~ BitVec.ofInt IntKind.u64.bits (IntKind.u64.wrap (1 * 2 ^ min ((c : Int).tmod 64).toNat IntKind.u64.bits))).toNat = ((clrW x c : Nat) : Int) := by
  rw [pow_min, bv_nat, bv_nat]
  have h : (BitVec.ofNat 64 x &&& ~~~ bitW c).toNat < 18446744073709551616 := (BitVec.ofNat 64 x &&& ~~~ bitW c).isLt
  exact wru (Int.natCast_nonneg _) (Int.ofNat_lt.2 h)
theorem set_eq (x c : Nat) : IntKind.u64.wrap (BitVec.ofInt IntKind.u64.bits (x : Int) ||| BitVec.ofInt IntKind.u64.bits (IntKind.u64.wrap (1 * 2 ^ min ((c : Int).tmod 64).toNat IntKind.u64.bits))).toNat = ((setW x c : Nat) : Int) := by
  rw [pow_min, bv_nat, bv_nat]
  have h : (BitVec.ofNat 64 x ||| bitW c).toNat < 18446744073709551616 := (BitVec.ofNat 64 x ||| bitW c).isLt
  exact wru (Int.natCast_nonneg _) (Int.ofNat_lt.2 h)
theorem clrW_lt (x c : Nat) : clrW x c < 2 ^ 64 := BitVec.isLt _
theorem setW_lt (x c : Nat) : setW x c < 2 ^ 64 := BitVec.isLt _
theorem clrW_bit (x c b : Nat) (hb : b < 64) : (clrW x c).testBit b = (x.testBit b && !decide (b = c % 64)) := by
  unfold clrW bitW
  rw [← BitVec.getLsbD, BitVec.getLsbD_and, BitVec.getLsbD_not, BitVec.getLsbD_ofNat, BitVec.getLsbD_ofNat, Nat.testBit_two_pow]
  have hlt : c % 64 < 64 := Nat.mod_lt _ (by omega)
  simp [hb, eq_comm]
theorem setW_bit (x c b : Nat) (hb : b < 64) : (setW x c).testBit b = (x.testBit b || decide (b = c % 64)) := by
  unfold setW bitW
  rw [← BitVec.getLsbD, BitVec.getLsbD_or, BitVec.getLsbD_ofNat, BitVec.getLsbD_ofNat, Nat.testBit_two_pow]
  simp [hb, eq_comm]
/-! ### Bits, by columns -/
def bit (w : Nat → Nat) (c : Nat) : Bool := (w (c / 64)).testBit (c % 64)
def clr (w : Nat → Nat) (c : Nat) : Nat → Nat := upd w (c / 64) (clrW (w (c / 64)) c)
def sett (w : Nat → Nat) (c : Nat) : Nat → Nat := upd w (c / 64) (setW (w (c / 64)) c)
theorem clr_bit (w : Nat → Nat) (c d : Nat) : bit (clr w c) d = (bit w d && !decide (d = c)) := by
  have hlt : d % 64 < 64 := Nat.mod_lt _ (by omega)
  unfold bit clr upd
  by_cases h : d / 64 = c / 64
  · rw [if_pos h, clrW_bit _ _ _ hlt, h]
    congr 2
    simp only [decide_eq_decide]
    omega
  · rw [if_neg h]
    have : ¬ d = c := fun e => h (by rw [e])
    simp [this]
theorem sett_bit (w : Nat → Nat) (c d : Nat) : bit (sett w c) d = (bit w d || decide (d = c)) := by
  have hlt : d % 64 < 64 := Nat.mod_lt _ (by omega)
  unfold bit sett upd
  by_cases h : d / 64 = c / 64
  · rw [if_pos h, setW_bit _ _ _ hlt, h]
    congr 1
    simp only [decide_eq_decide]
    omega
  · rw [if_neg h]
    have : ¬ d = c := fun e => h (by rw [e])
    simp [this]
def okW (w : Nat → Nat) : Prop := ∀ i, w i < 2 ^ 64
theorem clr_ok {w : Nat → Nat} (h : okW w) (c : Nat) : okW (clr w c) := fun i => by
  unfold clr upd
  split
  · exact clrW_lt _ _
  · exact h i
theorem sett_ok {w : Nat → Nat} (h : okW w) (c : Nat) : okW (sett w c) := fun i => by
  unfold sett upd
  split
  · exact setW_lt _ _
  · exact h i
theorem words_ext {w u : Nat → Nat} (hw : okW w) (hu : okW u) {n : Nat} (h : ∀ c, c < 64 * n → bit w c = bit u c) : ∀ i, i < n → w i = u i := fun i hi => by
  apply Nat.eq_of_testBit_eq
  intro b
  rcases Nat.lt_or_ge b 64 with hb | hb
  · have := h (64 * i + b) (by omega)
    unfold bit at this
    rw [show (64 * i + b) / 64 = i by omega, show (64 * i + b) % 64 = b by omega] at this
    exact this
  · rw [Nat.testBit_lt_two_pow (Nat.lt_of_lt_of_le (hw i) (Nat.pow_le_pow_right (by omega) hb)), Nat.testBit_lt_two_pow (Nat.lt_of_lt_of_le (hu i) (Nat.pow_le_pow_right (by omega) hb))]
end Go.Cx
namespace Go.Cx
open Go.Proofs
set_option maxRecDepth 100000
set_option maxHeartbeats 1000000
def clampN (n : Int) : Nat := (max 0 (min n 512)).toNat
theorem clamp_eq (n : Int) : (if (if 512 < n then 512 else n) > 0 then if 512 < n then 512 else n else 0) = ((clampN n : Nat) : Int) := by
  unfold clampN
  split <;> split <;> omega
def clrN (w : Nat → Nat) (a : Nat) : Nat → (Nat → Nat)
  | 0 => w
  | n + 1 => clrN (clr w a) (a + 1) n
def setN (w : Nat → Nat) (a : Nat) : Nat → (Nat → Nat)
  | 0 => w
  | n + 1 => setN (sett w a) (a + 8) n
structure Tb.ok (t : Tb) : Prop where
  c0 : 0 ≤ t.cols
  c1 : t.cols ≤ 512
  w : okW t.w
def Tb.n (t : Tb) : Nat := t.cols.toNat
def fromN (was : Nat) : Nat := max 8 ((was + 7) / 8 * 8)
def resizeW (t : Tb) (cl : Nat) : Nat → Nat := setN (clrN t.w cl (t.n - cl)) (fromN t.n) ((cl - fromN t.n + 7) / 8)
def Tb.resize (t : Tb) (n : Int) : Tb := ⟨resizeW t (clampN n), (clampN n : Nat), t.lab, t.base⟩
def envR1 (t : Tb) (n c : Int) : List V := t.v :: .int .i64 n :: .ptr 0 0 :: .undef :: .ptr 1 0 :: .int .i64 t.cols :: .int .i64 c :: List.replicate 48 .undef
def envR2 (t : Tb) (n c : Int) : List V := t.v :: .int .i64 n :: .ptr 0 0 :: .undef :: .ptr 1 0 :: .int .i64 t.cols :: .undef :: .int .i64 c :: List.replicate 47 .undef
def hpR (m : Nat → Nat) (cols lab base : Int) : Heap := [some (.cells 29 (Tb.cs ⟨m, cols, lab, base⟩)), some (.cells 29 [.int .u64 0, .int .u64 0, .int .u64 0, .int .u64 0, .int .u64 0, .int .u64 0, .int .u64 0, .int .u64 0, .int .i64 0, .int .u8 0, .int .u8 0])]
theorem wrs (c d : Nat) (h : c + d < 1000) : ((c + d : Nat) : Int) = IntKind.i64.wrap ((c : Int) + (d : Nat)) := by rw [wr64] <;> omega
theorem split8 {i : Nat} (h : i < 8) : i = 0 ∨ i = 1 ∨ i = 2 ∨ i = 3 ∨ i = 4 ∨ i = 5 ∨ i = 6 ∨ i = 7 := by omega

theorem resize_from (was : Nat) (h : was ≤ 512) : (if IntKind.i64.wrap (IntKind.i64.wrap ((IntKind.i64.wrap (IntKind.i64.wrap ((was : Int) + 8) - 1)).tdiv 8) * 8) > 8 then IntKind.i64.wrap (IntKind.i64.wrap ((IntKind.i64.wrap (IntKind.i64.wrap ((was : Int) + 8) - 1)).tdiv 8) * 8) else 8) = ((fromN was : Nat) : Int) := by
  rw [wr64 (n := (was : Int) + 8) (by omega) (by omega), wr64 (n := (was : Int) + 8 - 1) (by omega) (by omega)]
  have : ((was : Int) + 8 - 1).tdiv 8 = (((was + 7) / 8 : Nat) : Int) := by rw [Int.tdiv_eq_ediv_of_nonneg (by omega)]; omega
  rw [this, wr64 (n := (((was + 7) / 8 : Nat) : Int)) (by omega) (by omega), wr64 (by omega) (by omega)]
  unfold fromN
  split <;> omega

theorem resize_fn (t : Tb) (ht : t.ok) (n : Int) : Fn Tryd.prog 24 [t.v, .int .i64 n] (t.resize n).v := by
  have hc0 := ht.c0
  have hc1 := ht.c1
  have hcl : clampN n ≤ 512 := by unfold clampN; omega
  obtain ⟨was, hwas⟩ : ∃ was : Nat, t.cols = (was : Int) := ⟨t.cols.toNat, by omega⟩
  have hn : t.n = was := by unfold Tb.n; omega
  refine Fn.of_body tysOk md0 Tryd.func24 rfl rfl rfl rfl ?_
  refine LoopP.inv (md := md0) (fun k env h => ∃ (c : Nat) (m : Nat → Nat), k = was - c ∧ clrN m c (was - c) = clrN t.w (clampN n) (was - clampN n) ∧ env = envR1 t (clampN n : Nat) c ∧ h = hpR m t.cols t.lab t.base) (was - clampN n) ⟨envR1 t (clampN n : Nat) (clampN n : Nat), _, .same ?_ rfl, clampN n, t.w, rfl, rfl, rfl, rfl⟩ ?_
  · rw [← clamp_eq]
    repeat (first | exact trivial | refine ⟨.inl rfl, ?_⟩ | refine ⟨.inr rfl, ?_⟩)
  rintro k _ _ ⟨c, m, rfl, hm, rfl, rfl⟩
  refine ⟨fun h => ?_, fun h => ?_⟩
  · have hc : c < was := by have := of_decide_eq_true h; omega
    have e1 := td64 c (by omega)
    have hm' : clrN (clr m c) (c + 1) (was - (c + 1)) = clrN t.w (clampN n) (was - clampN n) := by
      rw [← hm, show was - c = (was - (c + 1)) + 1 by omega]; rfl
    rcases split8 (show c / 64 < 8 by omega) with hi | hi | hi | hi | hi | hi | hi | hi
    · rw [hi] at e1
      refine DrawP.intro tysOk mixed false ?_
      refine gdP (by rw [e1]; rfl) ?_
      rw [e1]
      refine ⟨by kernel_rfl, ?_⟩
      refine ⟨was - (c + 1), envR1 t (clampN n : Nat) (c + 1 : Nat), hpR (upd m 0 (clrW (m 0) c)) t.cols t.lab t.base, ?_, .same ?_ ?_, c + 1, upd m 0 (clrW (m 0) c), ?_⟩
      · omega
      · refine ⟨.inl rfl, .inl rfl, .inl rfl, .inl rfl, .inl rfl, .inl rfl, .inl ?_, ?_⟩
        · exact congrArg (V.int .i64) (wrs c 1 (by omega))
        · repeat (first | exact trivial | refine ⟨.inl rfl, ?_⟩ | refine ⟨.inr rfl, ?_⟩)
      · exact congrArg (fun x => [some (Blk.cells 29 (V.int .u64 x :: _)), _]) (clr_eq (m 0) c).symm
      · rw [show upd m 0 (clrW (m 0) c) = clr m c by unfold clr; rw [hi]]
        exact ⟨rfl, hm', rfl, rfl⟩
    · rw [hi] at e1
      refine DrawP.intro tysOk mixed false ?_
      refine gdP (by rw [e1]; rfl) ?_
      rw [e1]
      refine ⟨by kernel_rfl, ?_⟩
      refine ⟨was - (c + 1), envR1 t (clampN n : Nat) (c + 1 : Nat), hpR (upd m 1 (clrW (m 1) c)) t.cols t.lab t.base, ?_, .same ?_ ?_, c + 1, upd m 1 (clrW (m 1) c), ?_⟩
      · omega
      · refine ⟨.inl rfl, .inl rfl, .inl rfl, .inl rfl, .inl rfl, .inl rfl, .inl ?_, ?_⟩
        · exact congrArg (V.int .i64) (wrs c 1 (by omega))
        · repeat (first | exact trivial | refine ⟨.inl rfl, ?_⟩ | refine ⟨.inr rfl, ?_⟩)
      · exact congrArg (fun x => [some (Blk.cells 29 (_ :: V.int .u64 x :: _)), _]) (clr_eq (m 1) c).symm
      · rw [show upd m 1 (clrW (m 1) c) = clr m c by unfold clr; rw [hi]]
        exact ⟨rfl, hm', rfl, rfl⟩
    · rw [hi] at e1
      refine DrawP.intro tysOk mixed false ?_
      refine gdP (by rw [e1]; rfl) ?_
      rw [e1]
      refine ⟨by kernel_rfl, ?_⟩
      refine ⟨was - (c + 1), envR1 t (clampN n : Nat) (c + 1 : Nat), hpR (upd m 2 (clrW (m 2) c)) t.cols t.lab t.base, ?_, .same ?_ ?_, c + 1, upd m 2 (clrW (m 2) c), ?_⟩
      · omega
      · refine ⟨.inl rfl, .inl rfl, .inl rfl, .inl rfl, .inl rfl, .inl rfl, .inl ?_, ?_⟩
        · exact congrArg (V.int .i64) (wrs c 1 (by omega))
        · repeat (first | exact trivial | refine ⟨.inl rfl, ?_⟩ | refine ⟨.inr rfl, ?_⟩)
      · exact congrArg (fun x => [some (Blk.cells 29 (_ :: _ :: V.int .u64 x :: _)), _]) (clr_eq (m 2) c).symm
      · rw [show upd m 2 (clrW (m 2) c) = clr m c by unfold clr; rw [hi]]
        exact ⟨rfl, hm', rfl, rfl⟩
    · rw [hi] at e1
      refine DrawP.intro tysOk mixed false ?_
      refine gdP (by rw [e1]; rfl) ?_
      rw [e1]
      refine ⟨by kernel_rfl, ?_⟩
      refine ⟨was - (c + 1), envR1 t (clampN n : Nat) (c + 1 : Nat), hpR (upd m 3 (clrW (m 3) c)) t.cols t.lab t.base, ?_, .same ?_ ?_, c + 1, upd m 3 (clrW (m 3) c), ?_⟩
      · omega
      · refine ⟨.inl rfl, .inl rfl, .inl rfl, .inl rfl, .inl rfl, .inl rfl, .inl ?_, ?_⟩
        · exact congrArg (V.int .i64) (wrs c 1 (by omega))
        · repeat (first | exact trivial | refine ⟨.inl rfl, ?_⟩ | refine ⟨.inr rfl, ?_⟩)
      · exact congrArg (fun x => [some (Blk.cells 29 (_ :: _ :: _ :: V.int .u64 x :: _)), _]) (clr_eq (m 3) c).symm
      · rw [show upd m 3 (clrW (m 3) c) = clr m c by unfold clr; rw [hi]]
        exact ⟨rfl, hm', rfl, rfl⟩
    · rw [hi] at e1
      refine DrawP.intro tysOk mixed false ?_
      refine gdP (by rw [e1]; rfl) ?_
      rw [e1]
      refine ⟨by kernel_rfl, ?_⟩
      refine ⟨was - (c + 1), envR1 t (clampN n : Nat) (c + 1 : Nat), hpR (upd m 4 (clrW (m 4) c)) t.cols t.lab t.base, ?_, .same ?_ ?_, c + 1, upd m 4 (clrW (m 4) c), ?_⟩
      · omega
      · refine ⟨.inl rfl, .inl rfl, .inl rfl, .inl rfl, .inl rfl, .inl rfl, .inl ?_, ?_⟩
        · exact congrArg (V.int .i64) (wrs c 1 (by omega))
        · repeat (first | exact trivial | refine ⟨.inl rfl, ?_⟩ | refine ⟨.inr rfl, ?_⟩)
      · exact congrArg (fun x => [some (Blk.cells 29 (_ :: _ :: _ :: _ :: V.int .u64 x :: _)), _]) (clr_eq (m 4) c).symm
      · rw [show upd m 4 (clrW (m 4) c) = clr m c by unfold clr; rw [hi]]
        exact ⟨rfl, hm', rfl, rfl⟩
    · rw [hi] at e1
      refine DrawP.intro tysOk mixed false ?_
      refine gdP (by rw [e1]; rfl) ?_
      rw [e1]
      refine ⟨by kernel_rfl, ?_⟩
      refine ⟨was - (c + 1), envR1 t (clampN n : Nat) (c + 1 : Nat), hpR (upd m 5 (clrW (m 5) c)) t.cols t.lab t.base, ?_, .same ?_ ?_, c + 1, upd m 5 (clrW (m 5) c), ?_⟩
      · omega
      · refine ⟨.inl rfl, .inl rfl, .inl rfl, .inl rfl, .inl rfl, .inl rfl, .inl ?_, ?_⟩
        · exact congrArg (V.int .i64) (wrs c 1 (by omega))
        · repeat (first | exact trivial | refine ⟨.inl rfl, ?_⟩ | refine ⟨.inr rfl, ?_⟩)
      · exact congrArg (fun x => [some (Blk.cells 29 (_ :: _ :: _ :: _ :: _ :: V.int .u64 x :: _)), _]) (clr_eq (m 5) c).symm
      · rw [show upd m 5 (clrW (m 5) c) = clr m c by unfold clr; rw [hi]]
        exact ⟨rfl, hm', rfl, rfl⟩
    · rw [hi] at e1
      refine DrawP.intro tysOk mixed false ?_
      refine gdP (by rw [e1]; rfl) ?_
      rw [e1]
      refine ⟨by kernel_rfl, ?_⟩
      refine ⟨was - (c + 1), envR1 t (clampN n : Nat) (c + 1 : Nat), hpR (upd m 6 (clrW (m 6) c)) t.cols t.lab t.base, ?_, .same ?_ ?_, c + 1, upd m 6 (clrW (m 6) c), ?_⟩
      · omega
      · refine ⟨.inl rfl, .inl rfl, .inl rfl, .inl rfl, .inl rfl, .inl rfl, .inl ?_, ?_⟩
        · exact congrArg (V.int .i64) (wrs c 1 (by omega))
        · repeat (first | exact trivial | refine ⟨.inl rfl, ?_⟩ | refine ⟨.inr rfl, ?_⟩)
      · exact congrArg (fun x => [some (Blk.cells 29 (_ :: _ :: _ :: _ :: _ :: _ :: V.int .u64 x :: _)), _]) (clr_eq (m 6) c).symm
      · rw [show upd m 6 (clrW (m 6) c) = clr m c by unfold clr; rw [hi]]
        exact ⟨rfl, hm', rfl, rfl⟩
    · rw [hi] at e1
      refine DrawP.intro tysOk mixed false ?_
      refine gdP (by rw [e1]; rfl) ?_
      rw [e1]
      refine ⟨by kernel_rfl, ?_⟩
      refine ⟨was - (c + 1), envR1 t (clampN n : Nat) (c + 1 : Nat), hpR (upd m 7 (clrW (m 7) c)) t.cols t.lab t.base, ?_, .same ?_ ?_, c + 1, upd m 7 (clrW (m 7) c), ?_⟩
      · omega
      · refine ⟨.inl rfl, .inl rfl, .inl rfl, .inl rfl, .inl rfl, .inl rfl, .inl ?_, ?_⟩
        · exact congrArg (V.int .i64) (wrs c 1 (by omega))
        · repeat (first | exact trivial | refine ⟨.inl rfl, ?_⟩ | refine ⟨.inr rfl, ?_⟩)
      · exact congrArg (fun x => [some (Blk.cells 29 (_ :: _ :: _ :: _ :: _ :: _ :: _ :: V.int .u64 x :: _)), _]) (clr_eq (m 7) c).symm
      · rw [show upd m 7 (clrW (m 7) c) = clr m c by unfold clr; rw [hi]]
        exact ⟨rfl, hm', rfl, rfl⟩
  have hge : was ≤ c := by have := of_decide_eq_false h; omega
  have hmw : m = clrN t.w (clampN n) (was - clampN n) := by rw [← hm, show was - c = 0 by omega]; rfl
  refine LoopP.inv (md := md0) (fun k env h => ∃ (c : Nat) (m2 : Nat → Nat), k = clampN n - c ∧ c ≤ 520 ∧ setN m2 c ((clampN n - c + 7) / 8) = resizeW t (clampN n) ∧ env = envR2 t (clampN n : Nat) c ∧ h = hpR m2 (clampN n : Nat) t.lab t.base) (clampN n - fromN was) ⟨envR2 t (clampN n : Nat) (fromN was : Nat), _, .same ?_ rfl, fromN was, m, rfl, ?_, ?_, rfl, rfl⟩ ?_
  · rw [← resize_from was (by omega), ← hwas]
    repeat (first | exact trivial | refine ⟨.inl rfl, ?_⟩ | refine ⟨.inr rfl, ?_⟩)
  · unfold fromN; omega
  · rw [hmw]; unfold resizeW; rw [hn]
  rintro k _ _ ⟨c, m, rfl, hc520, hm2, rfl, rfl⟩
  refine ⟨fun h => ?_, fun h => ?_⟩
  · have hc : c < clampN n := by have := of_decide_eq_true h; omega
    have e1 := td64 c (by omega)
    have hm' : setN (sett m c) (c + 8) ((clampN n - (c + 8) + 7) / 8) = resizeW t (clampN n) := by
      rw [← hm2, show (clampN n - c + 7) / 8 = (clampN n - (c + 8) + 7) / 8 + 1 by omega]; rfl
    rcases split8 (show c / 64 < 8 by omega) with hi | hi | hi | hi | hi | hi | hi | hi
    · rw [hi] at e1
      refine DrawP.intro tysOk mixed false ?_
      refine gdP (by rw [e1]; rfl) ?_
      rw [e1]
      refine ⟨by kernel_rfl, ?_⟩
      refine ⟨clampN n - (c + 8), envR2 t (clampN n : Nat) (c + 8 : Nat), hpR (upd m 0 (setW (m 0) c)) (clampN n : Nat) t.lab t.base, ?_, .same ?_ ?_, c + 8, upd m 0 (setW (m 0) c), ?_⟩
      · omega
      · refine ⟨.inl rfl, .inl rfl, .inl rfl, .inl rfl, .inl rfl, .inl rfl, .inl rfl, .inl ?_, ?_⟩
        · exact congrArg (V.int .i64) (wrs c 8 (by omega))
        · repeat (first | exact trivial | refine ⟨.inl rfl, ?_⟩ | refine ⟨.inr rfl, ?_⟩)
      · exact congrArg (fun x => [some (Blk.cells 29 (V.int .u64 x :: _)), _]) (set_eq (m 0) c).symm
      · rw [show upd m 0 (setW (m 0) c) = sett m c by unfold sett; rw [hi]]
        exact ⟨rfl, by omega, hm', rfl, rfl⟩
    · rw [hi] at e1
      refine DrawP.intro tysOk mixed false ?_
      refine gdP (by rw [e1]; rfl) ?_
      rw [e1]
      refine ⟨by kernel_rfl, ?_⟩
      refine ⟨clampN n - (c + 8), envR2 t (clampN n : Nat) (c + 8 : Nat), hpR (upd m 1 (setW (m 1) c)) (clampN n : Nat) t.lab t.base, ?_, .same ?_ ?_, c + 8, upd m 1 (setW (m 1) c), ?_⟩
      · omega
      · refine ⟨.inl rfl, .inl rfl, .inl rfl, .inl rfl, .inl rfl, .inl rfl, .inl rfl, .inl ?_, ?_⟩
        · exact congrArg (V.int .i64) (wrs c 8 (by omega))
        · repeat (first | exact trivial | refine ⟨.inl rfl, ?_⟩ | refine ⟨.inr rfl, ?_⟩)
      · exact congrArg (fun x => [some (Blk.cells 29 (_ :: V.int .u64 x :: _)), _]) (set_eq (m 1) c).symm
      · rw [show upd m 1 (setW (m 1) c) = sett m c by unfold sett; rw [hi]]
        exact ⟨rfl, by omega, hm', rfl, rfl⟩
    · rw [hi] at e1
      refine DrawP.intro tysOk mixed false ?_
      refine gdP (by rw [e1]; rfl) ?_
      rw [e1]
      refine ⟨by kernel_rfl, ?_⟩
      refine ⟨clampN n - (c + 8), envR2 t (clampN n : Nat) (c + 8 : Nat), hpR (upd m 2 (setW (m 2) c)) (clampN n : Nat) t.lab t.base, ?_, .same ?_ ?_, c + 8, upd m 2 (setW (m 2) c), ?_⟩
      · omega
      · refine ⟨.inl rfl, .inl rfl, .inl rfl, .inl rfl, .inl rfl, .inl rfl, .inl rfl, .inl ?_, ?_⟩
        · exact congrArg (V.int .i64) (wrs c 8 (by omega))
        · repeat (first | exact trivial | refine ⟨.inl rfl, ?_⟩ | refine ⟨.inr rfl, ?_⟩)
      · exact congrArg (fun x => [some (Blk.cells 29 (_ :: _ :: V.int .u64 x :: _)), _]) (set_eq (m 2) c).symm
      · rw [show upd m 2 (setW (m 2) c) = sett m c by unfold sett; rw [hi]]
        exact ⟨rfl, by omega, hm', rfl, rfl⟩
    · rw [hi] at e1
      refine DrawP.intro tysOk mixed false ?_
      refine gdP (by rw [e1]; rfl) ?_
      rw [e1]
      refine ⟨by kernel_rfl, ?_⟩
      refine ⟨clampN n - (c + 8), envR2 t (clampN n : Nat) (c + 8 : Nat), hpR (upd m 3 (setW (m 3) c)) (clampN n : Nat) t.lab t.base, ?_, .same ?_ ?_, c + 8, upd m 3 (setW (m 3) c), ?_⟩
      · omega
      · refine ⟨.inl rfl, .inl rfl, .inl rfl, .inl rfl, .inl rfl, .inl rfl, .inl rfl, .inl ?_, ?_⟩
        · exact congrArg (V.int .i64) (wrs c 8 (by omega))
        · repeat (first | exact trivial | refine ⟨.inl rfl, ?_⟩ | refine ⟨.inr rfl, ?_⟩)
      · exact congrArg (fun x => [some (Blk.cells 29 (_ :: _ :: _ :: V.int .u64 x :: _)), _]) (set_eq (m 3) c).symm
      · rw [show upd m 3 (setW (m 3) c) = sett m c by unfold sett; rw [hi]]
        exact ⟨rfl, by omega, hm', rfl, rfl⟩
    · rw [hi] at e1
      refine DrawP.intro tysOk mixed false ?_
      refine gdP (by rw [e1]; rfl) ?_
      rw [e1]
      refine ⟨by kernel_rfl, ?_⟩
      refine ⟨clampN n - (c + 8), envR2 t (clampN n : Nat) (c + 8 : Nat), hpR (upd m 4 (setW (m 4) c)) (clampN n : Nat) t.lab t.base, ?_, .same ?_ ?_, c + 8, upd m 4 (setW (m 4) c), ?_⟩
      · omega
      · refine ⟨.inl rfl, .inl rfl, .inl rfl, .inl rfl, .inl rfl, .inl rfl, .inl rfl, .inl ?_, ?_⟩
        · exact congrArg (V.int .i64) (wrs c 8 (by omega))
        · repeat (first | exact trivial | refine ⟨.inl rfl, ?_⟩ | refine ⟨.inr rfl, ?_⟩)
      · exact congrArg (fun x => [some (Blk.cells 29 (_ :: _ :: _ :: _ :: V.int .u64 x :: _)), _]) (set_eq (m 4) c).symm
      · rw [show upd m 4 (setW (m 4) c) = sett m c by unfold sett; rw [hi]]
        exact ⟨rfl, by omega, hm', rfl, rfl⟩
    · rw [hi] at e1
      refine DrawP.intro tysOk mixed false ?_
      refine gdP (by rw [e1]; rfl) ?_
      rw [e1]
      refine ⟨by kernel_rfl, ?_⟩
      refine ⟨clampN n - (c + 8), envR2 t (clampN n : Nat) (c + 8 : Nat), hpR (upd m 5 (setW (m 5) c)) (clampN n : Nat) t.lab t.base, ?_, .same ?_ ?_, c + 8, upd m 5 (setW (m 5) c), ?_⟩
      · omega
      · refine ⟨.inl rfl, .inl rfl, .inl rfl, .inl rfl, .inl rfl, .inl rfl, .inl rfl, .inl ?_, ?_⟩
        · exact congrArg (V.int .i64) (wrs c 8 (by omega))
        · repeat (first | exact trivial | refine ⟨.inl rfl, ?_⟩ | refine ⟨.inr rfl, ?_⟩)
      · exact congrArg (fun x => [some (Blk.cells 29 (_ :: _ :: _ :: _ :: _ :: V.int .u64 x :: _)), _]) (set_eq (m 5) c).symm
      · rw [show upd m 5 (setW (m 5) c) = sett m c by unfold sett; rw [hi]]
        exact ⟨rfl, by omega, hm', rfl, rfl⟩
    · rw [hi] at e1
      refine DrawP.intro tysOk mixed false ?_
      refine gdP (by rw [e1]; rfl) ?_
      rw [e1]
      refine ⟨by kernel_rfl, ?_⟩
      refine ⟨clampN n - (c + 8), envR2 t (clampN n : Nat) (c + 8 : Nat), hpR (upd m 6 (setW (m 6) c)) (clampN n : Nat) t.lab t.base, ?_, .same ?_ ?_, c + 8, upd m 6 (setW (m 6) c), ?_⟩
      · omega
      · refine ⟨.inl rfl, .inl rfl, .inl rfl, .inl rfl, .inl rfl, .inl rfl, .inl rfl, .inl ?_, ?_⟩
        · exact congrArg (V.int .i64) (wrs c 8 (by omega))
        · repeat (first | exact trivial | refine ⟨.inl rfl, ?_⟩ | refine ⟨.inr rfl, ?_⟩)
      · exact congrArg (fun x => [some (Blk.cells 29 (_ :: _ :: _ :: _ :: _ :: _ :: V.int .u64 x :: _)), _]) (set_eq (m 6) c).symm
      · rw [show upd m 6 (setW (m 6) c) = sett m c by unfold sett; rw [hi]]
        exact ⟨rfl, by omega, hm', rfl, rfl⟩
    · rw [hi] at e1
      refine DrawP.intro tysOk mixed false ?_
      refine gdP (by rw [e1]; rfl) ?_
      rw [e1]
      refine ⟨by kernel_rfl, ?_⟩
      refine ⟨clampN n - (c + 8), envR2 t (clampN n : Nat) (c + 8 : Nat), hpR (upd m 7 (setW (m 7) c)) (clampN n : Nat) t.lab t.base, ?_, .same ?_ ?_, c + 8, upd m 7 (setW (m 7) c), ?_⟩
      · omega
      · refine ⟨.inl rfl, .inl rfl, .inl rfl, .inl rfl, .inl rfl, .inl rfl, .inl rfl, .inl ?_, ?_⟩
        · exact congrArg (V.int .i64) (wrs c 8 (by omega))
        · repeat (first | exact trivial | refine ⟨.inl rfl, ?_⟩ | refine ⟨.inr rfl, ?_⟩)
      · exact congrArg (fun x => [some (Blk.cells 29 (_ :: _ :: _ :: _ :: _ :: _ :: _ :: V.int .u64 x :: _)), _]) (set_eq (m 7) c).symm
      · rw [show upd m 7 (setW (m 7) c) = sett m c by unfold sett; rw [hi]]
        exact ⟨rfl, by omega, hm', rfl, rfl⟩
  have hge2 : clampN n ≤ c := by have := of_decide_eq_false h; omega
  have hfin : m = resizeW t (clampN n) := by rw [← hm2, show (clampN n - c + 7) / 8 = 0 by omega]; rfl
  show Tb.v ⟨m, (clampN n : Nat), t.lab, t.base⟩ = (t.resize n).v
  rw [hfin]; rfl
end Go.Cx
namespace Go.Cx
open Go.Proofs
set_option maxRecDepth 100000
set_option maxHeartbeats 1000000

def jn2 (x y : Int) : Int := if x > 0 ∨ y > 0 then 1 else 0
theorem join2_fn (x y : Int) : Fn Tryd.prog 31 [.psl 1 [[.int .u8 x], [.int .u8 y]] .exact] (.int .u8 (jn2 x y)) := by
  refine Fn.of_body tysOk md0 Tryd.func31 rfl rfl rfl rfl ?_
  refine Sem.of_body tysOk md0 Tryd.func36 rfl rfl ?_
  refine LoopP.unroll (md := md0) ?_
  refine BCase.yes rfl ?_
  refine ⟨_, ⟨by decide, rfl⟩, ?_⟩
  refine Sem.of_body tysOk md0 Tryd.func37 rfl rfl ?_
  refine ⟨fun h => ?_, fun h => ?_⟩
  · have hx : x > 0 := by simpa using h
    refine Sem.of_body tysOk md0 Tryd.func35 rfl rfl ?_
    refine BCase.yes rfl ?_
    show V.int .u8 1 = _
    rw [show jn2 x y = 1 by simp [jn2, hx]]
  · have hx : ¬ x > 0 := by simpa using h
    refine LoopP.unroll (md := md0) ?_
    refine BCase.yes rfl ?_
    refine ⟨_, ⟨by decide, rfl⟩, ?_⟩
    refine Sem.of_body tysOk md0 Tryd.func37 rfl rfl ?_
    refine ⟨fun h => ?_, fun h => ?_⟩
    · have hy : y > 0 := by simpa using h
      refine Sem.of_body tysOk md0 Tryd.func35 rfl rfl ?_
      refine BCase.yes rfl ?_
      show V.int .u8 1 = _
      rw [show jn2 x y = 1 by simp [jn2, hy]]
    · have hy : ¬ y > 0 := by simpa using h
      refine LoopP.unroll (md := md0) ?_
      refine BCase.no rfl ?_
      refine Sem.of_body tysOk md0 Tryd.func35 rfl rfl ?_
      refine BCase.no rfl ?_
      show V.int .u8 0 = _
      rw [show jn2 x y = 0 by simp [jn2, hx, hy]]
def Tb.raise (t : Tb) (l : Int) : Tb := ⟨t.w, t.cols, jn2 t.lab l, t.base⟩
def Tb.decl (t : Tb) : Tb := ⟨t.w, t.cols, t.base, t.base⟩
def Tb.none (t : Tb) : Tb := ⟨fun _ => 0, t.cols, t.base, t.base⟩
def Tb.there (t : Tb) (c : Int) : Bool := decide (0 ≤ c) && decide (c < t.cols)
def Tb.has (t : Tb) (c : Int) : Bool := t.there c && bit t.w c.toNat
theorem raise_fn (t : Tb) (l : Int) : Fn Tryd.prog 23 [t.v, .int .u8 l] (t.raise l).v := by
  refine Fn.of_body tysOk md0 Tryd.func23 rfl rfl rfl rfl ?_
  refine (join2_fn t.lab l).sem _ ?_
  rfl
theorem decl_fn (t : Tb) : Fn Tryd.prog 22 [t.v] t.decl.v := by
  refine Fn.of_body tysOk md0 Tryd.func22 rfl rfl rfl rfl ?_
  rfl
theorem none_fn (t : Tb) : Fn Tryd.prog 25 [t.v] t.none.v := by
  refine Fn.of_body tysOk md0 Tryd.func25 rfl rfl rfl rfl ?_
  refine (decl_fn ⟨fun _ => 0, t.cols, t.lab, t.base⟩).sem _ ?_
  rfl
theorem cols_fn (t : Tb) : Fn Tryd.prog 12 [t.v] (.int .i64 t.cols) := by
  refine Fn.of_body tysOk md0 Tryd.func12 rfl rfl rfl rfl ?_
  rfl
theorem label_fn (t : Tb) : Fn Tryd.prog 16 [t.v] (.int .u8 t.lab) := by
  refine Fn.of_body tysOk md0 Tryd.func16 rfl rfl rfl rfl ?_
  rfl
def lastI (t : Tb) : Int := max 0 (t.cols - 1)
theorem last_fn (t : Tb) (ht : t.ok) : Fn Tryd.prog 27 [t.v] (.int .i64 (lastI t)) := by
  have := ht.c0
  have := ht.c1
  refine Fn.of_body tysOk md0 Tryd.func27 rfl rfl rfl rfl ?_
  show V.int .i64 _ = _
  rw [wr64 (n := t.cols - 1) (by omega) (by omega)]
  unfold lastI
  congr 1
  split <;> omega
theorem there_fn (t : Tb) (c : Int) : Fn Tryd.prog 29 [t.v, .int .i64 c] (.bool (t.there c)) := by
  refine Fn.of_body tysOk md0 Tryd.func29 rfl rfl rfl rfl ?_
  refine ⟨fun h => ?_, fun h => ?_⟩
  · have h0 : 0 ≤ c := by simpa using h
    repeat (first | refine BCase.yes rfl ?_ | refine BCase.no rfl ?_)
    show V.bool _ = _
    unfold Tb.there
    simp [h0]
  · have h0 : ¬ 0 ≤ c := by simpa using h
    repeat (first | refine BCase.yes rfl ?_ | refine BCase.no rfl ?_)
    show V.bool _ = _
    unfold Tb.there
    simp [h0]
theorem shr_bit (x c : Nat) (_hx : x < 2 ^ 64) : (IntKind.u64.wrap ((BitVec.ofInt IntKind.u64.bits ((x : Int).fdiv (2 ^ min ((c : Int).tmod 64).toNat IntKind.u64.bits)) &&& BitVec.ofInt IntKind.u64.bits 1).toNat) == 1) = x.testBit (c % 64) := by
  have hb : IntKind.u64.bits = 64 := rfl
  have hlt : c % 64 < 64 := Nat.mod_lt _ (by omega)
  rw [tm64, Int.toNat_natCast, hb, Nat.min_eq_left (by omega)]
  have h2 : ((2 : Int) ^ (c % 64)) = ((2 ^ (c % 64) : Nat) : Int) := by simp
  have h3 : (x : Int).fdiv ((2 ^ (c % 64) : Nat) : Int) = ((x / 2 ^ (c % 64) : Nat) : Int) := by
    rw [Int.fdiv_eq_ediv_of_nonneg _ (Int.natCast_nonneg _)]; rfl
  rw [h2, h3]
  have h4 : BitVec.ofInt 64 ((x / 2 ^ (c % 64) : Nat) : Int) = BitVec.ofNat 64 (x / 2 ^ (c % 64)) := BitVec.ofInt_natCast 64 _
  have h5 : BitVec.ofInt 64 1 = BitVec.ofNat 64 1 := rfl
  rw [h4, h5]
  have h6 : (BitVec.ofNat 64 (x / 2 ^ (c % 64)) &&& BitVec.ofNat 64 1).toNat = (x / 2 ^ (c % 64)) % 2 := by
    rw [BitVec.toNat_and, BitVec.toNat_ofNat, BitVec.toNat_ofNat]
    rw [show 1 % 2 ^ 64 = 1 by rfl, Nat.and_one_is_mod]
    omega
  rw [h6, wru (Int.natCast_nonneg _) (by omega), Nat.testBit_eq_decide_div_mod_eq]
  rcases Nat.mod_two_eq_zero_or_one (x / 2 ^ (c % 64)) with h | h <;> rw [h] <;> rfl
theorem has_fn (t : Tb) (ht : t.ok) (c : Int) : Fn Tryd.prog 14 [t.v, .int .i64 c] (.bool (t.has c)) := by
  have hc0 := ht.c0
  have hc1 := ht.c1
  refine Fn.of_body tysOk md0 Tryd.func14 rfl rfl rfl rfl ?_
  refine (there_fn t c).sem _ ?_
  refine ⟨fun h => ?_, fun h => ?_⟩
  · unfold Tb.has
    rw [h]
    unfold Tb.there at h
    simp only [Bool.and_eq_true, decide_eq_true_eq] at h
    obtain ⟨n, rfl⟩ : ∃ n : Nat, c = (n : Int) := ⟨c.toNat, by omega⟩
    have e1 := td64 n (by omega)
    rw [Int.toNat_natCast]
    repeat (first | refine BCase.yes rfl ?_ | refine BCase.no rfl ?_)
    rcases split8 (show n / 64 < 8 by omega) with hi | hi | hi | hi | hi | hi | hi | hi
    · rw [hi] at e1
      refine gdP (by rw [e1]; rfl) ?_
      rw [e1]
      repeat (first | refine BCase.yes rfl ?_ | refine BCase.no rfl ?_)
      show V.bool _ = _
      have := shr_bit (t.w 0) n (ht.w 0)
      unfold bit
      rw [hi]
      exact congrArg V.bool this
    · rw [hi] at e1
      refine gdP (by rw [e1]; rfl) ?_
      rw [e1]
      repeat (first | refine BCase.yes rfl ?_ | refine BCase.no rfl ?_)
      show V.bool _ = _
      have := shr_bit (t.w 1) n (ht.w 1)
      unfold bit
      rw [hi]
      exact congrArg V.bool this
    · rw [hi] at e1
      refine gdP (by rw [e1]; rfl) ?_
      rw [e1]
      repeat (first | refine BCase.yes rfl ?_ | refine BCase.no rfl ?_)
      show V.bool _ = _
      have := shr_bit (t.w 2) n (ht.w 2)
      unfold bit
      rw [hi]
      exact congrArg V.bool this
    · rw [hi] at e1
      refine gdP (by rw [e1]; rfl) ?_
      rw [e1]
      repeat (first | refine BCase.yes rfl ?_ | refine BCase.no rfl ?_)
      show V.bool _ = _
      have := shr_bit (t.w 3) n (ht.w 3)
      unfold bit
      rw [hi]
      exact congrArg V.bool this
    · rw [hi] at e1
      refine gdP (by rw [e1]; rfl) ?_
      rw [e1]
      repeat (first | refine BCase.yes rfl ?_ | refine BCase.no rfl ?_)
      show V.bool _ = _
      have := shr_bit (t.w 4) n (ht.w 4)
      unfold bit
      rw [hi]
      exact congrArg V.bool this
    · rw [hi] at e1
      refine gdP (by rw [e1]; rfl) ?_
      rw [e1]
      repeat (first | refine BCase.yes rfl ?_ | refine BCase.no rfl ?_)
      show V.bool _ = _
      have := shr_bit (t.w 5) n (ht.w 5)
      unfold bit
      rw [hi]
      exact congrArg V.bool this
    · rw [hi] at e1
      refine gdP (by rw [e1]; rfl) ?_
      rw [e1]
      repeat (first | refine BCase.yes rfl ?_ | refine BCase.no rfl ?_)
      show V.bool _ = _
      have := shr_bit (t.w 6) n (ht.w 6)
      unfold bit
      rw [hi]
      exact congrArg V.bool this
    · rw [hi] at e1
      refine gdP (by rw [e1]; rfl) ?_
      rw [e1]
      repeat (first | refine BCase.yes rfl ?_ | refine BCase.no rfl ?_)
      show V.bool _ = _
      have := shr_bit (t.w 7) n (ht.w 7)
      unfold bit
      rw [hi]
      exact congrArg V.bool this
  · unfold Tb.has
    rw [h]
    repeat (first | refine BCase.yes rfl ?_ | refine BCase.no rfl ?_)
    rfl
theorem new_fn (n base : Int) : Fn Tryd.prog 9 [.int .i64 n, .int .u8 base] (Tb.resize ⟨fun _ => 0, 0, base, base⟩ n).v := by
  refine Fn.of_body tysOk md0 Tryd.func9 rfl rfl rfl rfl ?_
  refine (resize_fn ⟨fun _ => 0, 0, base, base⟩ ⟨Int.le_refl _, by show (0 : Int) ≤ 512; omega, fun _ => by simp⟩ n).sem _ ?_
  rfl
end Go.Cx
namespace Go.Cx
open Go.Proofs
set_option maxRecDepth 100000
set_option maxHeartbeats 1000000
def colsV (l : List Int) : List (List V) := l.map fun c => [.int .i64 c]
def envS (t : Tb) (b : Int) (l : List Int) (i : Int) : List V := t.v :: .int .u8 b :: .psl 1 (colsV l) .any :: .ptr 0 0 :: .undef :: .undef :: .ptr 1 0 :: .undef :: .undef :: .psl 1 (colsV l) .any :: .int .i64 (colsV l).length :: .int .i64 i :: List.replicate 21 .undef
theorem colsV_len (l : List Int) : (colsV l).length = l.length := by simp [colsV]
theorem colsV_get {l : List Int} {i : Nat} {c : Int} (h : l[i]? = some c) : (colsV l)[i]? = some [.int .i64 c] := by simp [colsV, h]
theorem wrS (c d : Nat) (h : c + d < 9223372036854775807) : ((c + d : Nat) : Int) = IntKind.i64.wrap ((c : Int) + (d : Nat)) := by rw [wr64] <;> omega
theorem drop_fold {α β : Type} (f : β → α → β) (l : List α) (i : Nat) (c : α) (h : l[i]? = some c) (m : β) : (l.drop i).foldl f m = (l.drop (i + 1)).foldl f (f m c) := by
  obtain ⟨hl, he⟩ := List.getElem?_eq_some_iff.1 h
  rw [List.drop_eq_getElem_cons hl, he, List.foldl_cons]
def stepS (cols : Int) (w : Nat → Nat) (c : Int) : Nat → Nat := if 0 ≤ c ∧ c < cols then sett w c.toNat else w
def Tb.put (t : Tb) (b : Int) (l : List Int) : Tb := ⟨l.foldl (stepS t.cols) t.w, t.cols, jn2 t.lab b, t.base⟩
theorem put_fn (t : Tb) (ht : t.ok) (b : Int) (l : List Int) (hl : l.length < 1000000) : Fn Tryd.prog 18 [t.v, .int .u8 b, .psl 1 (colsV l) .any] (t.put b l).v := by
  have hc0 := ht.c0
  have hc1 := ht.c1
  have hlen := colsV_len l
  refine Fn.of_body tysOk md0 Tryd.func18 rfl rfl rfl rfl ?_
  refine LoopP.inv (md := md0) (fun k env h => ∃ (i : Nat) (m : Nat → Nat), k = l.length - i ∧ i ≤ l.length ∧ (l.drop i).foldl (stepS t.cols) m = l.foldl (stepS t.cols) t.w ∧ env = envS t b l i ∧ h = hpR m t.cols t.lab t.base) l.length ⟨envS t b l 0, _, .same (by repeat (first | exact trivial | refine ⟨.inl rfl, ?_⟩ | refine ⟨.inr rfl, ?_⟩)) rfl, 0, t.w, rfl, Nat.zero_le _, rfl, rfl, rfl⟩ ?_
  rintro k _ _ ⟨i, m, rfl, hil, hm, rfl, rfl⟩
  refine ⟨fun h => ?_, fun h => ?_⟩
  · have hi' : i < l.length := by have := of_decide_eq_true h; omega
    obtain ⟨c, hc⟩ : ∃ c, l[i]? = some c := ⟨_, List.getElem?_eq_getElem hi'⟩
    rw [drop_fold _ _ _ _ hc] at hm
    refine ⟨[.int .i64 c], ⟨by omega, colsV_get hc⟩, ?_⟩
    refine (there_fn ⟨m, t.cols, t.lab, t.base⟩ c).sem _ ?_
    refine ⟨fun hth => ?_, fun hth => ?_⟩
    · unfold Tb.there at hth
      simp only [Bool.and_eq_true, decide_eq_true_eq] at hth
      obtain ⟨n, rfl⟩ : ∃ n : Nat, c = (n : Int) := ⟨c.toNat, by omega⟩
      have hst : stepS t.cols m (n : Int) = sett m n := by unfold stepS; rw [if_pos hth, Int.toNat_natCast]
      rw [hst] at hm
      have e1 := td64 n (by omega)
      rcases split8 (show n / 64 < 8 by omega) with hi | hi | hi | hi | hi | hi | hi | hi
      · rw [hi] at e1
        refine DrawP.intro tysOk mixed false ?_
        refine gdP (by rw [e1]; rfl) ?_
        rw [e1]
        refine ⟨by kernel_rfl, ?_⟩
        refine ⟨l.length - (i + 1), envS t b l (i + 1 : Nat), hpR (upd m 0 (setW (m 0) n)) t.cols t.lab t.base, ?_, .same ?_ ?_, i + 1, upd m 0 (setW (m 0) n), ?_⟩
        · omega
        · refine ⟨.inl rfl, .inl rfl, .inl rfl, .inl rfl, .inl rfl, .inl rfl, .inl rfl, .inl rfl, .inr rfl, .inl rfl, .inl rfl, .inl ?_, ?_⟩
          · exact congrArg (V.int .i64) (wrS i 1 (by omega))
          · repeat (first | exact trivial | refine ⟨.inl rfl, ?_⟩ | refine ⟨.inr rfl, ?_⟩)
        · exact congrArg (fun x => [some (Blk.cells 29 (V.int .u64 x :: _)), _]) (set_eq (m 0) n).symm
        · rw [show upd m 0 (setW (m 0) n) = sett m n by unfold sett; rw [hi]]
          exact ⟨rfl, hi', hm, rfl, rfl⟩
      · rw [hi] at e1
        refine DrawP.intro tysOk mixed false ?_
        refine gdP (by rw [e1]; rfl) ?_
        rw [e1]
        refine ⟨by kernel_rfl, ?_⟩
        refine ⟨l.length - (i + 1), envS t b l (i + 1 : Nat), hpR (upd m 1 (setW (m 1) n)) t.cols t.lab t.base, ?_, .same ?_ ?_, i + 1, upd m 1 (setW (m 1) n), ?_⟩
        · omega
        · refine ⟨.inl rfl, .inl rfl, .inl rfl, .inl rfl, .inl rfl, .inl rfl, .inl rfl, .inl rfl, .inr rfl, .inl rfl, .inl rfl, .inl ?_, ?_⟩
          · exact congrArg (V.int .i64) (wrS i 1 (by omega))
          · repeat (first | exact trivial | refine ⟨.inl rfl, ?_⟩ | refine ⟨.inr rfl, ?_⟩)
        · exact congrArg (fun x => [some (Blk.cells 29 (_ :: V.int .u64 x :: _)), _]) (set_eq (m 1) n).symm
        · rw [show upd m 1 (setW (m 1) n) = sett m n by unfold sett; rw [hi]]
          exact ⟨rfl, hi', hm, rfl, rfl⟩
      · rw [hi] at e1
        refine DrawP.intro tysOk mixed false ?_
        refine gdP (by rw [e1]; rfl) ?_
        rw [e1]
        refine ⟨by kernel_rfl, ?_⟩
        refine ⟨l.length - (i + 1), envS t b l (i + 1 : Nat), hpR (upd m 2 (setW (m 2) n)) t.cols t.lab t.base, ?_, .same ?_ ?_, i + 1, upd m 2 (setW (m 2) n), ?_⟩
        · omega
        · refine ⟨.inl rfl, .inl rfl, .inl rfl, .inl rfl, .inl rfl, .inl rfl, .inl rfl, .inl rfl, .inr rfl, .inl rfl, .inl rfl, .inl ?_, ?_⟩
          · exact congrArg (V.int .i64) (wrS i 1 (by omega))
          · repeat (first | exact trivial | refine ⟨.inl rfl, ?_⟩ | refine ⟨.inr rfl, ?_⟩)
        · exact congrArg (fun x => [some (Blk.cells 29 (_ :: _ :: V.int .u64 x :: _)), _]) (set_eq (m 2) n).symm
        · rw [show upd m 2 (setW (m 2) n) = sett m n by unfold sett; rw [hi]]
          exact ⟨rfl, hi', hm, rfl, rfl⟩
      · rw [hi] at e1
        refine DrawP.intro tysOk mixed false ?_
        refine gdP (by rw [e1]; rfl) ?_
        rw [e1]
        refine ⟨by kernel_rfl, ?_⟩
        refine ⟨l.length - (i + 1), envS t b l (i + 1 : Nat), hpR (upd m 3 (setW (m 3) n)) t.cols t.lab t.base, ?_, .same ?_ ?_, i + 1, upd m 3 (setW (m 3) n), ?_⟩
        · omega
        · refine ⟨.inl rfl, .inl rfl, .inl rfl, .inl rfl, .inl rfl, .inl rfl, .inl rfl, .inl rfl, .inr rfl, .inl rfl, .inl rfl, .inl ?_, ?_⟩
          · exact congrArg (V.int .i64) (wrS i 1 (by omega))
          · repeat (first | exact trivial | refine ⟨.inl rfl, ?_⟩ | refine ⟨.inr rfl, ?_⟩)
        · exact congrArg (fun x => [some (Blk.cells 29 (_ :: _ :: _ :: V.int .u64 x :: _)), _]) (set_eq (m 3) n).symm
        · rw [show upd m 3 (setW (m 3) n) = sett m n by unfold sett; rw [hi]]
          exact ⟨rfl, hi', hm, rfl, rfl⟩
      · rw [hi] at e1
        refine DrawP.intro tysOk mixed false ?_
        refine gdP (by rw [e1]; rfl) ?_
        rw [e1]
        refine ⟨by kernel_rfl, ?_⟩
        refine ⟨l.length - (i + 1), envS t b l (i + 1 : Nat), hpR (upd m 4 (setW (m 4) n)) t.cols t.lab t.base, ?_, .same ?_ ?_, i + 1, upd m 4 (setW (m 4) n), ?_⟩
        · omega
        · refine ⟨.inl rfl, .inl rfl, .inl rfl, .inl rfl, .inl rfl, .inl rfl, .inl rfl, .inl rfl, .inr rfl, .inl rfl, .inl rfl, .inl ?_, ?_⟩
          · exact congrArg (V.int .i64) (wrS i 1 (by omega))
          · repeat (first | exact trivial | refine ⟨.inl rfl, ?_⟩ | refine ⟨.inr rfl, ?_⟩)
        · exact congrArg (fun x => [some (Blk.cells 29 (_ :: _ :: _ :: _ :: V.int .u64 x :: _)), _]) (set_eq (m 4) n).symm
        · rw [show upd m 4 (setW (m 4) n) = sett m n by unfold sett; rw [hi]]
          exact ⟨rfl, hi', hm, rfl, rfl⟩
      · rw [hi] at e1
        refine DrawP.intro tysOk mixed false ?_
        refine gdP (by rw [e1]; rfl) ?_
        rw [e1]
        refine ⟨by kernel_rfl, ?_⟩
        refine ⟨l.length - (i + 1), envS t b l (i + 1 : Nat), hpR (upd m 5 (setW (m 5) n)) t.cols t.lab t.base, ?_, .same ?_ ?_, i + 1, upd m 5 (setW (m 5) n), ?_⟩
        · omega
        · refine ⟨.inl rfl, .inl rfl, .inl rfl, .inl rfl, .inl rfl, .inl rfl, .inl rfl, .inl rfl, .inr rfl, .inl rfl, .inl rfl, .inl ?_, ?_⟩
          · exact congrArg (V.int .i64) (wrS i 1 (by omega))
          · repeat (first | exact trivial | refine ⟨.inl rfl, ?_⟩ | refine ⟨.inr rfl, ?_⟩)
        · exact congrArg (fun x => [some (Blk.cells 29 (_ :: _ :: _ :: _ :: _ :: V.int .u64 x :: _)), _]) (set_eq (m 5) n).symm
        · rw [show upd m 5 (setW (m 5) n) = sett m n by unfold sett; rw [hi]]
          exact ⟨rfl, hi', hm, rfl, rfl⟩
      · rw [hi] at e1
        refine DrawP.intro tysOk mixed false ?_
        refine gdP (by rw [e1]; rfl) ?_
        rw [e1]
        refine ⟨by kernel_rfl, ?_⟩
        refine ⟨l.length - (i + 1), envS t b l (i + 1 : Nat), hpR (upd m 6 (setW (m 6) n)) t.cols t.lab t.base, ?_, .same ?_ ?_, i + 1, upd m 6 (setW (m 6) n), ?_⟩
        · omega
        · refine ⟨.inl rfl, .inl rfl, .inl rfl, .inl rfl, .inl rfl, .inl rfl, .inl rfl, .inl rfl, .inr rfl, .inl rfl, .inl rfl, .inl ?_, ?_⟩
          · exact congrArg (V.int .i64) (wrS i 1 (by omega))
          · repeat (first | exact trivial | refine ⟨.inl rfl, ?_⟩ | refine ⟨.inr rfl, ?_⟩)
        · exact congrArg (fun x => [some (Blk.cells 29 (_ :: _ :: _ :: _ :: _ :: _ :: V.int .u64 x :: _)), _]) (set_eq (m 6) n).symm
        · rw [show upd m 6 (setW (m 6) n) = sett m n by unfold sett; rw [hi]]
          exact ⟨rfl, hi', hm, rfl, rfl⟩
      · rw [hi] at e1
        refine DrawP.intro tysOk mixed false ?_
        refine gdP (by rw [e1]; rfl) ?_
        rw [e1]
        refine ⟨by kernel_rfl, ?_⟩
        refine ⟨l.length - (i + 1), envS t b l (i + 1 : Nat), hpR (upd m 7 (setW (m 7) n)) t.cols t.lab t.base, ?_, .same ?_ ?_, i + 1, upd m 7 (setW (m 7) n), ?_⟩
        · omega
        · refine ⟨.inl rfl, .inl rfl, .inl rfl, .inl rfl, .inl rfl, .inl rfl, .inl rfl, .inl rfl, .inr rfl, .inl rfl, .inl rfl, .inl ?_, ?_⟩
          · exact congrArg (V.int .i64) (wrS i 1 (by omega))
          · repeat (first | exact trivial | refine ⟨.inl rfl, ?_⟩ | refine ⟨.inr rfl, ?_⟩)
        · exact congrArg (fun x => [some (Blk.cells 29 (_ :: _ :: _ :: _ :: _ :: _ :: _ :: V.int .u64 x :: _)), _]) (set_eq (m 7) n).symm
        · rw [show upd m 7 (setW (m 7) n) = sett m n by unfold sett; rw [hi]]
          exact ⟨rfl, hi', hm, rfl, rfl⟩
    · have hst : stepS t.cols m c = m := by
        unfold stepS
        rw [if_neg]
        rintro ⟨h1, h2⟩
        simp [Tb.there, h1, h2] at hth
      rw [hst] at hm
      refine ⟨l.length - (i + 1), envS t b l (i + 1 : Nat), hpR m t.cols t.lab t.base, by omega, .same ?_ rfl, i + 1, m, rfl, hi', hm, rfl, rfl⟩
      refine ⟨.inl rfl, .inl rfl, .inl rfl, .inl rfl, .inl rfl, .inl rfl, .inl rfl, .inl rfl, .inr rfl, .inl rfl, .inl rfl, .inl ?_, ?_⟩
      · exact congrArg (V.int .i64) (wrS i 1 (by omega))
      · repeat (first | exact trivial | refine ⟨.inl rfl, ?_⟩ | refine ⟨.inr rfl, ?_⟩)
  · have hge : l.length ≤ i := by have := of_decide_eq_false h; omega
    rw [List.drop_eq_nil_of_le hge] at hm
    refine (raise_fn ⟨m, t.cols, t.lab, t.base⟩ b).sem _ ?_
    show Tb.v ⟨m, t.cols, jn2 t.lab b, t.base⟩ = (t.put b l).v
    rw [show m = l.foldl (stepS t.cols) t.w from hm]; rfl
def stepC (cols : Int) (w : Nat → Nat) (c : Int) : Nat → Nat := if 0 ≤ c ∧ c < cols then clr w c.toNat else w
def Tb.clear (t : Tb) (b : Int) (l : List Int) : Tb := ⟨l.foldl (stepC t.cols) t.w, t.cols, jn2 t.lab b, t.base⟩
theorem clear_fn (t : Tb) (ht : t.ok) (b : Int) (l : List Int) (hl : l.length < 1000000) : Fn Tryd.prog 20 [t.v, .int .u8 b, .psl 1 (colsV l) .any] (t.clear b l).v := by
  have hc0 := ht.c0
  have hc1 := ht.c1
  have hlen := colsV_len l
  refine Fn.of_body tysOk md0 Tryd.func20 rfl rfl rfl rfl ?_
  refine LoopP.inv (md := md0) (fun k env h => ∃ (i : Nat) (m : Nat → Nat), k = l.length - i ∧ i ≤ l.length ∧ (l.drop i).foldl (stepC t.cols) m = l.foldl (stepC t.cols) t.w ∧ env = envS t b l i ∧ h = hpR m t.cols t.lab t.base) l.length ⟨envS t b l 0, _, .same (by repeat (first | exact trivial | refine ⟨.inl rfl, ?_⟩ | refine ⟨.inr rfl, ?_⟩)) rfl, 0, t.w, rfl, Nat.zero_le _, rfl, rfl, rfl⟩ ?_
  rintro k _ _ ⟨i, m, rfl, hil, hm, rfl, rfl⟩
  refine ⟨fun h => ?_, fun h => ?_⟩
  · have hi' : i < l.length := by have := of_decide_eq_true h; omega
    obtain ⟨c, hc⟩ : ∃ c, l[i]? = some c := ⟨_, List.getElem?_eq_getElem hi'⟩
    rw [drop_fold _ _ _ _ hc] at hm
    refine ⟨[.int .i64 c], ⟨by omega, colsV_get hc⟩, ?_⟩
    refine (there_fn ⟨m, t.cols, t.lab, t.base⟩ c).sem _ ?_
    refine ⟨fun hth => ?_, fun hth => ?_⟩
    · unfold Tb.there at hth
      simp only [Bool.and_eq_true, decide_eq_true_eq] at hth
      obtain ⟨n, rfl⟩ : ∃ n : Nat, c = (n : Int) := ⟨c.toNat, by omega⟩
      have hst : stepC t.cols m (n : Int) = clr m n := by unfold stepC; rw [if_pos hth, Int.toNat_natCast]
      rw [hst] at hm
      have e1 := td64 n (by omega)
      rcases split8 (show n / 64 < 8 by omega) with hi | hi | hi | hi | hi | hi | hi | hi
      · rw [hi] at e1
        refine DrawP.intro tysOk mixed false ?_
        refine gdP (by rw [e1]; rfl) ?_
        rw [e1]
        refine ⟨by kernel_rfl, ?_⟩
        refine ⟨l.length - (i + 1), envS t b l (i + 1 : Nat), hpR (upd m 0 (clrW (m 0) n)) t.cols t.lab t.base, ?_, .same ?_ ?_, i + 1, upd m 0 (clrW (m 0) n), ?_⟩
        · omega
        · refine ⟨.inl rfl, .inl rfl, .inl rfl, .inl rfl, .inl rfl, .inl rfl, .inl rfl, .inl rfl, .inr rfl, .inl rfl, .inl rfl, .inl ?_, ?_⟩
          · exact congrArg (V.int .i64) (wrS i 1 (by omega))
          · repeat (first | exact trivial | refine ⟨.inl rfl, ?_⟩ | refine ⟨.inr rfl, ?_⟩)
        · exact congrArg (fun x => [some (Blk.cells 29 (V.int .u64 x :: _)), _]) (clr_eq (m 0) n).symm
        · rw [show upd m 0 (clrW (m 0) n) = clr m n by unfold clr; rw [hi]]
          exact ⟨rfl, hi', hm, rfl, rfl⟩
      · rw [hi] at e1
        refine DrawP.intro tysOk mixed false ?_
        refine gdP (by rw [e1]; rfl) ?_
        rw [e1]
        refine ⟨by kernel_rfl, ?_⟩
        refine ⟨l.length - (i + 1), envS t b l (i + 1 : Nat), hpR (upd m 1 (clrW (m 1) n)) t.cols t.lab t.base, ?_, .same ?_ ?_, i + 1, upd m 1 (clrW (m 1) n), ?_⟩
        · omega
        · refine ⟨.inl rfl, .inl rfl, .inl rfl, .inl rfl, .inl rfl, .inl rfl, .inl rfl, .inl rfl, .inr rfl, .inl rfl, .inl rfl, .inl ?_, ?_⟩
          · exact congrArg (V.int .i64) (wrS i 1 (by omega))
          · repeat (first | exact trivial | refine ⟨.inl rfl, ?_⟩ | refine ⟨.inr rfl, ?_⟩)
        · exact congrArg (fun x => [some (Blk.cells 29 (_ :: V.int .u64 x :: _)), _]) (clr_eq (m 1) n).symm
        · rw [show upd m 1 (clrW (m 1) n) = clr m n by unfold clr; rw [hi]]
          exact ⟨rfl, hi', hm, rfl, rfl⟩
      · rw [hi] at e1
        refine DrawP.intro tysOk mixed false ?_
        refine gdP (by rw [e1]; rfl) ?_
        rw [e1]
        refine ⟨by kernel_rfl, ?_⟩
        refine ⟨l.length - (i + 1), envS t b l (i + 1 : Nat), hpR (upd m 2 (clrW (m 2) n)) t.cols t.lab t.base, ?_, .same ?_ ?_, i + 1, upd m 2 (clrW (m 2) n), ?_⟩
        · omega
        · refine ⟨.inl rfl, .inl rfl, .inl rfl, .inl rfl, .inl rfl, .inl rfl, .inl rfl, .inl rfl, .inr rfl, .inl rfl, .inl rfl, .inl ?_, ?_⟩
          · exact congrArg (V.int .i64) (wrS i 1 (by omega))
          · repeat (first | exact trivial | refine ⟨.inl rfl, ?_⟩ | refine ⟨.inr rfl, ?_⟩)
        · exact congrArg (fun x => [some (Blk.cells 29 (_ :: _ :: V.int .u64 x :: _)), _]) (clr_eq (m 2) n).symm
        · rw [show upd m 2 (clrW (m 2) n) = clr m n by unfold clr; rw [hi]]
          exact ⟨rfl, hi', hm, rfl, rfl⟩
      · rw [hi] at e1
        refine DrawP.intro tysOk mixed false ?_
        refine gdP (by rw [e1]; rfl) ?_
        rw [e1]
        refine ⟨by kernel_rfl, ?_⟩
        refine ⟨l.length - (i + 1), envS t b l (i + 1 : Nat), hpR (upd m 3 (clrW (m 3) n)) t.cols t.lab t.base, ?_, .same ?_ ?_, i + 1, upd m 3 (clrW (m 3) n), ?_⟩
        · omega
        · refine ⟨.inl rfl, .inl rfl, .inl rfl, .inl rfl, .inl rfl, .inl rfl, .inl rfl, .inl rfl, .inr rfl, .inl rfl, .inl rfl, .inl ?_, ?_⟩
          · exact congrArg (V.int .i64) (wrS i 1 (by omega))
          · repeat (first | exact trivial | refine ⟨.inl rfl, ?_⟩ | refine ⟨.inr rfl, ?_⟩)
        · exact congrArg (fun x => [some (Blk.cells 29 (_ :: _ :: _ :: V.int .u64 x :: _)), _]) (clr_eq (m 3) n).symm
        · rw [show upd m 3 (clrW (m 3) n) = clr m n by unfold clr; rw [hi]]
          exact ⟨rfl, hi', hm, rfl, rfl⟩
      · rw [hi] at e1
        refine DrawP.intro tysOk mixed false ?_
        refine gdP (by rw [e1]; rfl) ?_
        rw [e1]
        refine ⟨by kernel_rfl, ?_⟩
        refine ⟨l.length - (i + 1), envS t b l (i + 1 : Nat), hpR (upd m 4 (clrW (m 4) n)) t.cols t.lab t.base, ?_, .same ?_ ?_, i + 1, upd m 4 (clrW (m 4) n), ?_⟩
        · omega
        · refine ⟨.inl rfl, .inl rfl, .inl rfl, .inl rfl, .inl rfl, .inl rfl, .inl rfl, .inl rfl, .inr rfl, .inl rfl, .inl rfl, .inl ?_, ?_⟩
          · exact congrArg (V.int .i64) (wrS i 1 (by omega))
          · repeat (first | exact trivial | refine ⟨.inl rfl, ?_⟩ | refine ⟨.inr rfl, ?_⟩)
        · exact congrArg (fun x => [some (Blk.cells 29 (_ :: _ :: _ :: _ :: V.int .u64 x :: _)), _]) (clr_eq (m 4) n).symm
        · rw [show upd m 4 (clrW (m 4) n) = clr m n by unfold clr; rw [hi]]
          exact ⟨rfl, hi', hm, rfl, rfl⟩
      · rw [hi] at e1
        refine DrawP.intro tysOk mixed false ?_
        refine gdP (by rw [e1]; rfl) ?_
        rw [e1]
        refine ⟨by kernel_rfl, ?_⟩
        refine ⟨l.length - (i + 1), envS t b l (i + 1 : Nat), hpR (upd m 5 (clrW (m 5) n)) t.cols t.lab t.base, ?_, .same ?_ ?_, i + 1, upd m 5 (clrW (m 5) n), ?_⟩
        · omega
        · refine ⟨.inl rfl, .inl rfl, .inl rfl, .inl rfl, .inl rfl, .inl rfl, .inl rfl, .inl rfl, .inr rfl, .inl rfl, .inl rfl, .inl ?_, ?_⟩
          · exact congrArg (V.int .i64) (wrS i 1 (by omega))
          · repeat (first | exact trivial | refine ⟨.inl rfl, ?_⟩ | refine ⟨.inr rfl, ?_⟩)
        · exact congrArg (fun x => [some (Blk.cells 29 (_ :: _ :: _ :: _ :: _ :: V.int .u64 x :: _)), _]) (clr_eq (m 5) n).symm
        · rw [show upd m 5 (clrW (m 5) n) = clr m n by unfold clr; rw [hi]]
          exact ⟨rfl, hi', hm, rfl, rfl⟩
      · rw [hi] at e1
        refine DrawP.intro tysOk mixed false ?_
        refine gdP (by rw [e1]; rfl) ?_
        rw [e1]
        refine ⟨by kernel_rfl, ?_⟩
        refine ⟨l.length - (i + 1), envS t b l (i + 1 : Nat), hpR (upd m 6 (clrW (m 6) n)) t.cols t.lab t.base, ?_, .same ?_ ?_, i + 1, upd m 6 (clrW (m 6) n), ?_⟩
        · omega
        · refine ⟨.inl rfl, .inl rfl, .inl rfl, .inl rfl, .inl rfl, .inl rfl, .inl rfl, .inl rfl, .inr rfl, .inl rfl, .inl rfl, .inl ?_, ?_⟩
          · exact congrArg (V.int .i64) (wrS i 1 (by omega))
          · repeat (first | exact trivial | refine ⟨.inl rfl, ?_⟩ | refine ⟨.inr rfl, ?_⟩)
        · exact congrArg (fun x => [some (Blk.cells 29 (_ :: _ :: _ :: _ :: _ :: _ :: V.int .u64 x :: _)), _]) (clr_eq (m 6) n).symm
        · rw [show upd m 6 (clrW (m 6) n) = clr m n by unfold clr; rw [hi]]
          exact ⟨rfl, hi', hm, rfl, rfl⟩
      · rw [hi] at e1
        refine DrawP.intro tysOk mixed false ?_
        refine gdP (by rw [e1]; rfl) ?_
        rw [e1]
        refine ⟨by kernel_rfl, ?_⟩
        refine ⟨l.length - (i + 1), envS t b l (i + 1 : Nat), hpR (upd m 7 (clrW (m 7) n)) t.cols t.lab t.base, ?_, .same ?_ ?_, i + 1, upd m 7 (clrW (m 7) n), ?_⟩
        · omega
        · refine ⟨.inl rfl, .inl rfl, .inl rfl, .inl rfl, .inl rfl, .inl rfl, .inl rfl, .inl rfl, .inr rfl, .inl rfl, .inl rfl, .inl ?_, ?_⟩
          · exact congrArg (V.int .i64) (wrS i 1 (by omega))
          · repeat (first | exact trivial | refine ⟨.inl rfl, ?_⟩ | refine ⟨.inr rfl, ?_⟩)
        · exact congrArg (fun x => [some (Blk.cells 29 (_ :: _ :: _ :: _ :: _ :: _ :: _ :: V.int .u64 x :: _)), _]) (clr_eq (m 7) n).symm
        · rw [show upd m 7 (clrW (m 7) n) = clr m n by unfold clr; rw [hi]]
          exact ⟨rfl, hi', hm, rfl, rfl⟩
    · have hst : stepC t.cols m c = m := by
        unfold stepC
        rw [if_neg]
        rintro ⟨h1, h2⟩
        simp [Tb.there, h1, h2] at hth
      rw [hst] at hm
      refine ⟨l.length - (i + 1), envS t b l (i + 1 : Nat), hpR m t.cols t.lab t.base, by omega, .same ?_ rfl, i + 1, m, rfl, hi', hm, rfl, rfl⟩
      refine ⟨.inl rfl, .inl rfl, .inl rfl, .inl rfl, .inl rfl, .inl rfl, .inl rfl, .inl rfl, .inr rfl, .inl rfl, .inl rfl, .inl ?_, ?_⟩
      · exact congrArg (V.int .i64) (wrS i 1 (by omega))
      · repeat (first | exact trivial | refine ⟨.inl rfl, ?_⟩ | refine ⟨.inr rfl, ?_⟩)
  · have hge : l.length ≤ i := by have := of_decide_eq_false h; omega
    rw [List.drop_eq_nil_of_le hge] at hm
    refine (raise_fn ⟨m, t.cols, t.lab, t.base⟩ b).sem _ ?_
    show Tb.v ⟨m, t.cols, jn2 t.lab b, t.base⟩ = (t.clear b l).v
    rw [show m = l.foldl (stepC t.cols) t.w from hm]; rfl
end Go.Cx
