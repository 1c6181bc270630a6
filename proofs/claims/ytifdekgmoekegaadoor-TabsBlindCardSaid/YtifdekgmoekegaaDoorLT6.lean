/- What functions of this seat compute, each for every argument of the shapes that are named; no condition beside the stated ones. -/
import Derived.Test.YtifdekgmoekegaaDoorLT5
namespace Go.Cx
open Go.Proofs
set_option maxRecDepth 100000
set_option maxHeartbeats 1000000
def clampN (n : Int) : Nat := (max 0 (min n 512)).toNat
theorem clamp_eq (n : Int) : (if (if 512 < n then 512 else n) > 0 then if 512 < n then 512 else n else 0) = ((clampN n : Nat) : Int) := by
  unfold clampN
  split <;> split <;> omega
def clrN (w : Nat → Nat) (a : Nat) : Nat → (Nat → Nat)
  | 0 => w
  | n + 1 => clrN (clr w a) (a + 1) n
def setN (w : Nat → Nat) (a : Nat) : Nat → (Nat → Nat)
  | 0 => w
  | n + 1 => setN (sett w a) (a + 8) n
structure Tb.ok (t : Tb) : Prop where
  c0 : 0 ≤ t.cols
  c1 : t.cols ≤ 512
  w : okW t.w
def Tb.n (t : Tb) : Nat := t.cols.toNat
def fromN (was : Nat) : Nat := max 8 ((was + 7) / 8 * 8)
def resizeW (t : Tb) (cl : Nat) : Nat → Nat := setN (clrN t.w cl (t.n - cl)) (fromN t.n) ((cl - fromN t.n + 7) / 8)
def Tb.resize (t : Tb) (n : Int) : Tb := ⟨resizeW t (clampN n), (clampN n : Nat), t.lab, t.base⟩
def envR1 (t : Tb) (n c : Int) : List V := t.v :: .int .i64 n :: .ptr 0 0 :: .undef :: .ptr 1 0 :: .int .i64 t.cols :: .int .i64 c :: List.replicate 48 .undef
def envR2 (t : Tb) (n c : Int) : List V := t.v :: .int .i64 n :: .ptr 0 0 :: .undef :: .ptr 1 0 :: .int .i64 t.cols :: .undef :: .int .i64 c :: List.replicate 47 .undef
def hpR (m : Nat → Nat) (cols lab base : Int) : Heap := [some (.cells 29 (Tb.cs ⟨m, cols, lab, base⟩)), some (.cells 29 [.int .u64 0, .int .u64 0, .int .u64 0, .int .u64 0, .int .u64 0, .int .u64 0, .int .u64 0, .int .u64 0, .int .i64 0, .int .u8 0, .int .u8 0])]
theorem wrs (c d : Nat) (h : c + d < 1000) : ((c + d : Nat) : Int) = IntKind.i64.wrap ((c : Int) + (d : Nat)) := by rw [wr64] <;> omega
theorem split8 {i : Nat} (h : i < 8) : i = 0 ∨ i = 1 ∨ i = 2 ∨ i = 3 ∨ i = 4 ∨ i = 5 ∨ i = 6 ∨ i = 7 := by omega

theorem resize_from (was : Nat) (h : was ≤ 512) : (if IntKind.i64.wrap (IntKind.i64.wrap ((IntKind.i64.wrap (IntKind.i64.wrap ((was : Int) + 8) - 1)).tdiv 8) * 8) > 8 then IntKind.i64.wrap (IntKind.i64.wrap ((IntKind.i64.wrap (IntKind.i64.wrap ((was : Int) + 8) - 1)).tdiv 8) * 8) else 8) = ((fromN was : Nat) : Int) := by
  rw [wr64 (n := (was : Int) + 8) (by omega) (by omega), wr64 (n := (was : Int) + 8 - 1) (by omega) (by omega)]
  have : ((was : Int) + 8 - 1).tdiv 8 = (((was + 7) / 8 : Nat) : Int) := by rw [Int.tdiv_eq_ediv_of_nonneg (by omega)]; omega
  rw [this, wr64 (n := (((was + 7) / 8 : Nat) : Int)) (by omega) (by omega), wr64 (by omega) (by omega)]
  unfold fromN
  split <;> omega

theorem resize_fn (t : Tb) (ht : t.ok) (n : Int) : Fn Tryd.prog 24 [t.v, .int .i64 n] (t.resize n).v := by
  have hc0 := ht.c0
  have hc1 := ht.c1
  have hcl : clampN n ≤ 512 := by unfold clampN; omega
  obtain ⟨was, hwas⟩ : ∃ was : Nat, t.cols = (was : Int) := ⟨t.cols.toNat, by omega⟩
  have hn : t.n = was := by unfold Tb.n; omega
  refine Fn.of_body tysOk md0 Tryd.func24 rfl rfl rfl rfl ?_
  refine LoopP.inv (md := md0) (fun k env h => ∃ (c : Nat) (m : Nat → Nat), k = was - c ∧ clrN m c (was - c) = clrN t.w (clampN n) (was - clampN n) ∧ env = envR1 t (clampN n : Nat) c ∧ h = hpR m t.cols t.lab t.base) (was - clampN n) ⟨envR1 t (clampN n : Nat) (clampN n : Nat), _, .same ?_ rfl, clampN n, t.w, rfl, rfl, rfl, rfl⟩ ?_
  · rw [← clamp_eq]
    repeat (first | exact trivial | refine ⟨.inl rfl, ?_⟩ | refine ⟨.inr rfl, ?_⟩)
  rintro k _ _ ⟨c, m, rfl, hm, rfl, rfl⟩
  refine ⟨fun h => ?_, fun h => ?_⟩
  · have hc : c < was := by have := of_decide_eq_true h; omega
    have e1 := td64 c (by omega)
    have hm' : clrN (clr m c) (c + 1) (was - (c + 1)) = clrN t.w (clampN n) (was - clampN n) := by
      rw [← hm, show was - c = (was - (c + 1)) + 1 by omega]; rfl
    rcases split8 (show c / 64 < 8 by omega) with hi | hi | hi | hi | hi | hi | hi | hi
    · rw [hi] at e1
      refine DrawP.intro tysOk mixed false ?_
      refine gdP (by rw [e1]; rfl) ?_
      rw [e1]
      refine ⟨by kernel_rfl, ?_⟩
      refine ⟨was - (c + 1), envR1 t (clampN n : Nat) (c + 1 : Nat), hpR (upd m 0 (clrW (m 0) c)) t.cols t.lab t.base, ?_, .same ?_ ?_, c + 1, upd m 0 (clrW (m 0) c), ?_⟩
      · omega
      · refine ⟨.inl rfl, .inl rfl, .inl rfl, .inl rfl, .inl rfl, .inl rfl, .inl ?_, ?_⟩
        · exact congrArg (V.int .i64) (wrs c 1 (by omega))
        · repeat (first | exact trivial | refine ⟨.inl rfl, ?_⟩ | refine ⟨.inr rfl, ?_⟩)
      · exact congrArg (fun x => [some (Blk.cells 29 (V.int .u64 x :: _)), _]) (clr_eq (m 0) c).symm
      · rw [show upd m 0 (clrW (m 0) c) = clr m c by unfold clr; rw [hi]]
        exact ⟨rfl, hm', rfl, rfl⟩
    · rw [hi] at e1
      refine DrawP.intro tysOk mixed false ?_
      refine gdP (by rw [e1]; rfl) ?_
      rw [e1]
      refine ⟨by kernel_rfl, ?_⟩
      refine ⟨was - (c + 1), envR1 t (clampN n : Nat) (c + 1 : Nat), hpR (upd m 1 (clrW (m 1) c)) t.cols t.lab t.base, ?_, .same ?_ ?_, c + 1, upd m 1 (clrW (m 1) c), ?_⟩
      · omega
      · refine ⟨.inl rfl, .inl rfl, .inl rfl, .inl rfl, .inl rfl, .inl rfl, .inl ?_, ?_⟩
        · exact congrArg (V.int .i64) (wrs c 1 (by omega))
        · repeat (first | exact trivial | refine ⟨.inl rfl, ?_⟩ | refine ⟨.inr rfl, ?_⟩)
      · exact congrArg (fun x => [some (Blk.cells 29 (_ :: V.int .u64 x :: _)), _]) (clr_eq (m 1) c).symm
      · rw [show upd m 1 (clrW (m 1) c) = clr m c by unfold clr; rw [hi]]
        exact ⟨rfl, hm', rfl, rfl⟩
    · rw [hi] at e1
      refine DrawP.intro tysOk mixed false ?_
      refine gdP (by rw [e1]; rfl) ?_
      rw [e1]
      refine ⟨by kernel_rfl, ?_⟩
      refine ⟨was - (c + 1), envR1 t (clampN n : Nat) (c + 1 : Nat), hpR (upd m 2 (clrW (m 2) c)) t.cols t.lab t.base, ?_, .same ?_ ?_, c + 1, upd m 2 (clrW (m 2) c), ?_⟩
      · omega
      · refine ⟨.inl rfl, .inl rfl, .inl rfl, .inl rfl, .inl rfl, .inl rfl, .inl ?_, ?_⟩
        · exact congrArg (V.int .i64) (wrs c 1 (by omega))
        · repeat (first | exact trivial | refine ⟨.inl rfl, ?_⟩ | refine ⟨.inr rfl, ?_⟩)
      · exact congrArg (fun x => [some (Blk.cells 29 (_ :: _ :: V.int .u64 x :: _)), _]) (clr_eq (m 2) c).symm
      · rw [show upd m 2 (clrW (m 2) c) = clr m c by unfold clr; rw [hi]]
        exact ⟨rfl, hm', rfl, rfl⟩
    · rw [hi] at e1
      refine DrawP.intro tysOk mixed false ?_
      refine gdP (by rw [e1]; rfl) ?_
      rw [e1]
      refine ⟨by kernel_rfl, ?_⟩
      refine ⟨was - (c + 1), envR1 t (clampN n : Nat) (c + 1 : Nat), hpR (upd m 3 (clrW (m 3) c)) t.cols t.lab t.base, ?_, .same ?_ ?_, c + 1, upd m 3 (clrW (m 3) c), ?_⟩
      · omega
      · refine ⟨.inl rfl, .inl rfl, .inl rfl, .inl rfl, .inl rfl, .inl rfl, .inl ?_, ?_⟩
        · exact congrArg (V.int .i64) (wrs c 1 (by omega))
        · repeat (first | exact trivial | refine ⟨.inl rfl, ?_⟩ | refine ⟨.inr rfl, ?_⟩)
      · exact congrArg (fun x => [some (Blk.cells 29 (_ :: _ :: _ :: V.int .u64 x :: _)), _]) (clr_eq (m 3) c).symm
      · rw [show upd m 3 (clrW (m 3) c) = clr m c by unfold clr; rw [hi]]
        exact ⟨rfl, hm', rfl, rfl⟩
    · rw [hi] at e1
      refine DrawP.intro tysOk mixed false ?_
      refine gdP (by rw [e1]; rfl) ?_
      rw [e1]
      refine ⟨by kernel_rfl, ?_⟩
      refine ⟨was - (c + 1), envR1 t (clampN n : Nat) (c + 1 : Nat), hpR (upd m 4 (clrW (m 4) c)) t.cols t.lab t.base, ?_, .same ?_ ?_, c + 1, upd m 4 (clrW (m 4) c), ?_⟩
      · omega
      · refine ⟨.inl rfl, .inl rfl, .inl rfl, .inl rfl, .inl rfl, .inl rfl, .inl ?_, ?_⟩
        · exact congrArg (V.int .i64) (wrs c 1 (by omega))
        · repeat (first | exact trivial | refine ⟨.inl rfl, ?_⟩ | refine ⟨.inr rfl, ?_⟩)
      · exact congrArg (fun x => [some (Blk.cells 29 (_ :: _ :: _ :: _ :: V.int .u64 x :: _)), _]) (clr_eq (m 4) c).symm
      · rw [show upd m 4 (clrW (m 4) c) = clr m c by unfold clr; rw [hi]]
        exact ⟨rfl, hm', rfl, rfl⟩
    · rw [hi] at e1
      refine DrawP.intro tysOk mixed false ?_
      refine gdP (by rw [e1]; rfl) ?_
      rw [e1]
      refine ⟨by kernel_rfl, ?_⟩
      refine ⟨was - (c + 1), envR1 t (clampN n : Nat) (c + 1 : Nat), hpR (upd m 5 (clrW (m 5) c)) t.cols t.lab t.base, ?_, .same ?_ ?_, c + 1, upd m 5 (clrW (m 5) c), ?_⟩
      · omega
      · refine ⟨.inl rfl, .inl rfl, .inl rfl, .inl rfl, .inl rfl, .inl rfl, .inl ?_, ?_⟩
        · exact congrArg (V.int .i64) (wrs c 1 (by omega))
        · repeat (first | exact trivial | refine ⟨.inl rfl, ?_⟩ | refine ⟨.inr rfl, ?_⟩)
      · exact congrArg (fun x => [some (Blk.cells 29 (_ :: _ :: _ :: _ :: _ :: V.int .u64 x :: _)), _]) (clr_eq (m 5) c).symm
      · rw [show upd m 5 (clrW (m 5) c) = clr m c by unfold clr; rw [hi]]
        exact ⟨rfl, hm', rfl, rfl⟩
    · rw [hi] at e1
      refine DrawP.intro tysOk mixed false ?_
      refine gdP (by rw [e1]; rfl) ?_
      rw [e1]
      refine ⟨by kernel_rfl, ?_⟩
      refine ⟨was - (c + 1), envR1 t (clampN n : Nat) (c + 1 : Nat), hpR (upd m 6 (clrW (m 6) c)) t.cols t.lab t.base, ?_, .same ?_ ?_, c + 1, upd m 6 (clrW (m 6) c), ?_⟩
      · omega
      · refine ⟨.inl rfl, .inl rfl, .inl rfl, .inl rfl, .inl rfl, .inl rfl, .inl ?_, ?_⟩
        · exact congrArg (V.int .i64) (wrs c 1 (by omega))
        · repeat (first | exact trivial | refine ⟨.inl rfl, ?_⟩ | refine ⟨.inr rfl, ?_⟩)
      · exact congrArg (fun x => [some (Blk.cells 29 (_ :: _ :: _ :: _ :: _ :: _ :: V.int .u64 x :: _)), _]) (clr_eq (m 6) c).symm
      · rw [show upd m 6 (clrW (m 6) c) = clr m c by unfold clr; rw [hi]]
        exact ⟨rfl, hm', rfl, rfl⟩
    · rw [hi] at e1
      refine DrawP.intro tysOk mixed false ?_
      refine gdP (by rw [e1]; rfl) ?_
      rw [e1]
      refine ⟨by kernel_rfl, ?_⟩
      refine ⟨was - (c + 1), envR1 t (clampN n : Nat) (c + 1 : Nat), hpR (upd m 7 (clrW (m 7) c)) t.cols t.lab t.base, ?_, .same ?_ ?_, c + 1, upd m 7 (clrW (m 7) c), ?_⟩
      · omega
      · refine ⟨.inl rfl, .inl rfl, .inl rfl, .inl rfl, .inl rfl, .inl rfl, .inl ?_, ?_⟩
        · exact congrArg (V.int .i64) (wrs c 1 (by omega))
        · repeat (first | exact trivial | refine ⟨.inl rfl, ?_⟩ | refine ⟨.inr rfl, ?_⟩)
      · exact congrArg (fun x => [some (Blk.cells 29 (_ :: _ :: _ :: _ :: _ :: _ :: _ :: V.int .u64 x :: _)), _]) (clr_eq (m 7) c).symm
      · rw [show upd m 7 (clrW (m 7) c) = clr m c by unfold clr; rw [hi]]
        exact ⟨rfl, hm', rfl, rfl⟩
  have hge : was ≤ c := by have := of_decide_eq_false h; omega
  have hmw : m = clrN t.w (clampN n) (was - clampN n) := by rw [← hm, show was - c = 0 by omega]; rfl
  refine LoopP.inv (md := md0) (fun k env h => ∃ (c : Nat) (m2 : Nat → Nat), k = clampN n - c ∧ c ≤ 520 ∧ setN m2 c ((clampN n - c + 7) / 8) = resizeW t (clampN n) ∧ env = envR2 t (clampN n : Nat) c ∧ h = hpR m2 (clampN n : Nat) t.lab t.base) (clampN n - fromN was) ⟨envR2 t (clampN n : Nat) (fromN was : Nat), _, .same ?_ rfl, fromN was, m, rfl, ?_, ?_, rfl, rfl⟩ ?_
  · rw [← resize_from was (by omega), ← hwas]
    repeat (first | exact trivial | refine ⟨.inl rfl, ?_⟩ | refine ⟨.inr rfl, ?_⟩)
  · unfold fromN; omega
  · rw [hmw]; unfold resizeW; rw [hn]
  rintro k _ _ ⟨c, m, rfl, hc520, hm2, rfl, rfl⟩
  refine ⟨fun h => ?_, fun h => ?_⟩
  · have hc : c < clampN n := by have := of_decide_eq_true h; omega
    have e1 := td64 c (by omega)
    have hm' : setN (sett m c) (c + 8) ((clampN n - (c + 8) + 7) / 8) = resizeW t (clampN n) := by
      rw [← hm2, show (clampN n - c + 7) / 8 = (clampN n - (c + 8) + 7) / 8 + 1 by omega]; rfl
    rcases split8 (show c / 64 < 8 by omega) with hi | hi | hi | hi | hi | hi | hi | hi
    · rw [hi] at e1
      refine DrawP.intro tysOk mixed false ?_
      refine gdP (by rw [e1]; rfl) ?_
      rw [e1]
      refine ⟨by kernel_rfl, ?_⟩
      refine ⟨clampN n - (c + 8), envR2 t (clampN n : Nat) (c + 8 : Nat), hpR (upd m 0 (setW (m 0) c)) (clampN n : Nat) t.lab t.base, ?_, .same ?_ ?_, c + 8, upd m 0 (setW (m 0) c), ?_⟩
      · omega
      · refine ⟨.inl rfl, .inl rfl, .inl rfl, .inl rfl, .inl rfl, .inl rfl, .inl rfl, .inl ?_, ?_⟩
        · exact congrArg (V.int .i64) (wrs c 8 (by omega))
        · repeat (first | exact trivial | refine ⟨.inl rfl, ?_⟩ | refine ⟨.inr rfl, ?_⟩)
      · exact congrArg (fun x => [some (Blk.cells 29 (V.int .u64 x :: _)), _]) (set_eq (m 0) c).symm
      · rw [show upd m 0 (setW (m 0) c) = sett m c by unfold sett; rw [hi]]
        exact ⟨rfl, by omega, hm', rfl, rfl⟩
    · rw [hi] at e1
      refine DrawP.intro tysOk mixed false ?_
      refine gdP (by rw [e1]; rfl) ?_
      rw [e1]
      refine ⟨by kernel_rfl, ?_⟩
      refine ⟨clampN n - (c + 8), envR2 t (clampN n : Nat) (c + 8 : Nat), hpR (upd m 1 (setW (m 1) c)) (clampN n : Nat) t.lab t.base, ?_, .same ?_ ?_, c + 8, upd m 1 (setW (m 1) c), ?_⟩
      · omega
      · refine ⟨.inl rfl, .inl rfl, .inl rfl, .inl rfl, .inl rfl, .inl rfl, .inl rfl, .inl ?_, ?_⟩
        · exact congrArg (V.int .i64) (wrs c 8 (by omega))
        · repeat (first | exact trivial | refine ⟨.inl rfl, ?_⟩ | refine ⟨.inr rfl, ?_⟩)
      · exact congrArg (fun x => [some (Blk.cells 29 (_ :: V.int .u64 x :: _)), _]) (set_eq (m 1) c).symm
      · rw [show upd m 1 (setW (m 1) c) = sett m c by unfold sett; rw [hi]]
        exact ⟨rfl, by omega, hm', rfl, rfl⟩
    · rw [hi] at e1
      refine DrawP.intro tysOk mixed false ?_
      refine gdP (by rw [e1]; rfl) ?_
      rw [e1]
      refine ⟨by kernel_rfl, ?_⟩
      refine ⟨clampN n - (c + 8), envR2 t (clampN n : Nat) (c + 8 : Nat), hpR (upd m 2 (setW (m 2) c)) (clampN n : Nat) t.lab t.base, ?_, .same ?_ ?_, c + 8, upd m 2 (setW (m 2) c), ?_⟩
      · omega
      · refine ⟨.inl rfl, .inl rfl, .inl rfl, .inl rfl, .inl rfl, .inl rfl, .inl rfl, .inl ?_, ?_⟩
        · exact congrArg (V.int .i64) (wrs c 8 (by omega))
        · repeat (first | exact trivial | refine ⟨.inl rfl, ?_⟩ | refine ⟨.inr rfl, ?_⟩)
      · exact congrArg (fun x => [some (Blk.cells 29 (_ :: _ :: V.int .u64 x :: _)), _]) (set_eq (m 2) c).symm
      · rw [show upd m 2 (setW (m 2) c) = sett m c by unfold sett; rw [hi]]
        exact ⟨rfl, by omega, hm', rfl, rfl⟩
    · rw [hi] at e1
      refine DrawP.intro tysOk mixed false ?_
      refine gdP (by rw [e1]; rfl) ?_
      rw [e1]
      refine ⟨by kernel_rfl, ?_⟩
      refine ⟨clampN n - (c + 8), envR2 t (clampN n : Nat) (c + 8 : Nat), hpR (upd m 3 (setW (m 3) c)) (clampN n : Nat) t.lab t.base, ?_, .same ?_ ?_, c + 8, upd m 3 (setW (m 3) c), ?_⟩
      · omega
      · refine ⟨.inl rfl, .inl rfl, .inl rfl, .inl rfl, .inl rfl, .inl rfl, .inl rfl, .inl ?_, ?_⟩
        · exact congrArg (V.int .i64) (wrs c 8 (by omega))
        · repeat (first | exact trivial | refine ⟨.inl rfl, ?_⟩ | refine ⟨.inr rfl, ?_⟩)
      · exact congrArg (fun x => [some (Blk.cells 29 (_ :: _ :: _ :: V.int .u64 x :: _)), _]) (set_eq (m 3) c).symm
      · rw [show upd m 3 (setW (m 3) c) = sett m c by unfold sett; rw [hi]]
        exact ⟨rfl, by omega, hm', rfl, rfl⟩
    · rw [hi] at e1
      refine DrawP.intro tysOk mixed false ?_
      refine gdP (by rw [e1]; rfl) ?_
      rw [e1]
      refine ⟨by kernel_rfl, ?_⟩
      refine ⟨clampN n - (c + 8), envR2 t (clampN n : Nat) (c + 8 : Nat), hpR (upd m 4 (setW (m 4) c)) (clampN n : Nat) t.lab t.base, ?_, .same ?_ ?_, c + 8, upd m 4 (setW (m 4) c), ?_⟩
      · omega
      · refine ⟨.inl rfl, .inl rfl, .inl rfl, .inl rfl, .inl rfl, .inl rfl, .inl rfl, .inl ?_, ?_⟩
        · exact congrArg (V.int .i64) (wrs c 8 (by omega))
        · repeat (first | exact trivial | refine ⟨.inl rfl, ?_⟩ | refine ⟨.inr rfl, ?_⟩)
      · exact congrArg (fun x => [some (Blk.cells 29 (_ :: _ :: _ :: _ :: V.int .u64 x :: _)), _]) (set_eq (m 4) c).symm
      · rw [show upd m 4 (setW (m 4) c) = sett m c by unfold sett; rw [hi]]
        exact ⟨rfl, by omega, hm', rfl, rfl⟩
    · rw [hi] at e1
      refine DrawP.intro tysOk mixed false ?_
      refine gdP (by rw [e1]; rfl) ?_
      rw [e1]
      refine ⟨by kernel_rfl, ?_⟩
      refine ⟨clampN n - (c + 8), envR2 t (clampN n : Nat) (c + 8 : Nat), hpR (upd m 5 (setW (m 5) c)) (clampN n : Nat) t.lab t.base, ?_, .same ?_ ?_, c + 8, upd m 5 (setW (m 5) c), ?_⟩
      · omega
      · refine ⟨.inl rfl, .inl rfl, .inl rfl, .inl rfl, .inl rfl, .inl rfl, .inl rfl, .inl ?_, ?_⟩
        · exact congrArg (V.int .i64) (wrs c 8 (by omega))
        · repeat (first | exact trivial | refine ⟨.inl rfl, ?_⟩ | refine ⟨.inr rfl, ?_⟩)
      · exact congrArg (fun x => [some (Blk.cells 29 (_ :: _ :: _ :: _ :: _ :: V.int .u64 x :: _)), _]) (set_eq (m 5) c).symm
      · rw [show upd m 5 (setW (m 5) c) = sett m c by unfold sett; rw [hi]]
        exact ⟨rfl, by omega, hm', rfl, rfl⟩
    · rw [hi] at e1
      refine DrawP.intro tysOk mixed false ?_
      refine gdP (by rw [e1]; rfl) ?_
      rw [e1]
      refine ⟨by kernel_rfl, ?_⟩
      refine ⟨clampN n - (c + 8), envR2 t (clampN n : Nat) (c + 8 : Nat), hpR (upd m 6 (setW (m 6) c)) (clampN n : Nat) t.lab t.base, ?_, .same ?_ ?_, c + 8, upd m 6 (setW (m 6) c), ?_⟩
      · omega
      · refine ⟨.inl rfl, .inl rfl, .inl rfl, .inl rfl, .inl rfl, .inl rfl, .inl rfl, .inl ?_, ?_⟩
        · exact congrArg (V.int .i64) (wrs c 8 (by omega))
        · repeat (first | exact trivial | refine ⟨.inl rfl, ?_⟩ | refine ⟨.inr rfl, ?_⟩)
      · exact congrArg (fun x => [some (Blk.cells 29 (_ :: _ :: _ :: _ :: _ :: _ :: V.int .u64 x :: _)), _]) (set_eq (m 6) c).symm
      · rw [show upd m 6 (setW (m 6) c) = sett m c by unfold sett; rw [hi]]
        exact ⟨rfl, by omega, hm', rfl, rfl⟩
    · rw [hi] at e1
      refine DrawP.intro tysOk mixed false ?_
      refine gdP (by rw [e1]; rfl) ?_
      rw [e1]
      refine ⟨by kernel_rfl, ?_⟩
      refine ⟨clampN n - (c + 8), envR2 t (clampN n : Nat) (c + 8 : Nat), hpR (upd m 7 (setW (m 7) c)) (clampN n : Nat) t.lab t.base, ?_, .same ?_ ?_, c + 8, upd m 7 (setW (m 7) c), ?_⟩
      · omega
      · refine ⟨.inl rfl, .inl rfl, .inl rfl, .inl rfl, .inl rfl, .inl rfl, .inl rfl, .inl ?_, ?_⟩
        · exact congrArg (V.int .i64) (wrs c 8 (by omega))
        · repeat (first | exact trivial | refine ⟨.inl rfl, ?_⟩ | refine ⟨.inr rfl, ?_⟩)
      · exact congrArg (fun x => [some (Blk.cells 29 (_ :: _ :: _ :: _ :: _ :: _ :: _ :: V.int .u64 x :: _)), _]) (set_eq (m 7) c).symm
      · rw [show upd m 7 (setW (m 7) c) = sett m c by unfold sett; rw [hi]]
        exact ⟨rfl, by omega, hm', rfl, rfl⟩
  have hge2 : clampN n ≤ c := by have := of_decide_eq_false h; omega
  have hfin : m = resizeW t (clampN n) := by rw [← hm2, show (clampN n - c + 7) / 8 = 0 by omega]; rfl
  show Tb.v ⟨m, (clampN n : Nat), t.lab, t.base⟩ = (t.resize n).v
  rw [hfin]; rfl
end Go.Cx
