/- What functions of this seat compute, each for every argument of the shapes that are named; no condition beside the stated ones. -/
import Derived.Test.YtifdekgmoekegaaDoorLT7
namespace Go.Cx
open Go.Proofs
set_option maxRecDepth 100000
set_option maxHeartbeats 1000000
def colsV (l : List Int) : List (List V) := l.map fun c => [.int .i64 c]
def envS (t : Tb) (b : Int) (l : List Int) (i : Int) : List V := t.v :: .int .u8 b :: .psl 1 (colsV l) .any :: .ptr 0 0 :: .undef :: .undef :: .ptr 1 0 :: .undef :: .undef :: .psl 1 (colsV l) .any :: .int .i64 (colsV l).length :: .int .i64 i :: List.replicate 21 .undef
theorem colsV_len (l : List Int) : (colsV l).length = l.length := by simp [colsV]
theorem colsV_get {l : List Int} {i : Nat} {c : Int} (h : l[i]? = some c) : (colsV l)[i]? = some [.int .i64 c] := by simp [colsV, h]
theorem wrS (c d : Nat) (h : c + d < 9223372036854775807) : ((c + d : Nat) : Int) = IntKind.i64.wrap ((c : Int) + (d : Nat)) := by rw [wr64] <;> omega
theorem drop_fold {α β : Type} (f : β → α → β) (l : List α) (i : Nat) (c : α) (h : l[i]? = some c) (m : β) : (l.drop i).foldl f m = (l.drop (i + 1)).foldl f (f m c) := by
  obtain ⟨hl, he⟩ := List.getElem?_eq_some_iff.1 h
  rw [List.drop_eq_getElem_cons hl, he, List.foldl_cons]
def stepS (cols : Int) (w : Nat → Nat) (c : Int) : Nat → Nat := if 0 ≤ c ∧ c < cols then sett w c.toNat else w
def Tb.put (t : Tb) (b : Int) (l : List Int) : Tb := ⟨l.foldl (stepS t.cols) t.w, t.cols, jn2 t.lab b, t.base⟩
theorem put_fn (t : Tb) (ht : t.ok) (b : Int) (l : List Int) (hl : l.length < 1000000) : Fn Tryd.prog 18 [t.v, .int .u8 b, .psl 1 (colsV l) .any] (t.put b l).v := by
  have hc0 := ht.c0
  have hc1 := ht.c1
  have hlen := colsV_len l
  refine Fn.of_body tysOk md0 Tryd.func18 rfl rfl rfl rfl ?_
  refine LoopP.inv (md := md0) (fun k env h => ∃ (i : Nat) (m : Nat → Nat), k = l.length - i ∧ i ≤ l.length ∧ (l.drop i).foldl (stepS t.cols) m = l.foldl (stepS t.cols) t.w ∧ env = envS t b l i ∧ h = hpR m t.cols t.lab t.base) l.length ⟨envS t b l 0, _, .same (by repeat (first | exact trivial | refine ⟨.inl rfl, ?_⟩ | refine ⟨.inr rfl, ?_⟩)) rfl, 0, t.w, rfl, Nat.zero_le _, rfl, rfl, rfl⟩ ?_
  rintro k _ _ ⟨i, m, rfl, hil, hm, rfl, rfl⟩
  refine ⟨fun h => ?_, fun h => ?_⟩
  · have hi' : i < l.length := by have := of_decide_eq_true h; omega
    obtain ⟨c, hc⟩ : ∃ c, l[i]? = some c := ⟨_, List.getElem?_eq_getElem hi'⟩
    rw [drop_fold _ _ _ _ hc] at hm
    refine ⟨[.int .i64 c], ⟨by omega, colsV_get hc⟩, ?_⟩
    refine (there_fn ⟨m, t.cols, t.lab, t.base⟩ c).sem _ ?_
    refine ⟨fun hth => ?_, fun hth => ?_⟩
    · unfold Tb.there at hth
      simp only [Bool.and_eq_true, decide_eq_true_eq] at hth
      obtain ⟨n, rfl⟩ : ∃ n : Nat, c = (n : Int) := ⟨c.toNat, by omega⟩
      have hst : stepS t.cols m (n : Int) = sett m n := by unfold stepS; rw [if_pos hth, Int.toNat_natCast]
      rw [hst] at hm
      have e1 := td64 n (by omega)
      rcases split8 (show n / 64 < 8 by omega) with hi | hi | hi | hi | hi | hi | hi | hi
      · rw [hi] at e1
        refine DrawP.intro tysOk mixed false ?_
        refine gdP (by rw [e1]; rfl) ?_
        rw [e1]
        refine ⟨by kernel_rfl, ?_⟩
        refine ⟨l.length - (i + 1), envS t b l (i + 1 : Nat), hpR (upd m 0 (setW (m 0) n)) t.cols t.lab t.base, ?_, .same ?_ ?_, i + 1, upd m 0 (setW (m 0) n), ?_⟩
        · omega
        · refine ⟨.inl rfl, .inl rfl, .inl rfl, .inl rfl, .inl rfl, .inl rfl, .inl rfl, .inl rfl, .inr rfl, .inl rfl, .inl rfl, .inl ?_, ?_⟩
          · exact congrArg (V.int .i64) (wrS i 1 (by omega))
          · repeat (first | exact trivial | refine ⟨.inl rfl, ?_⟩ | refine ⟨.inr rfl, ?_⟩)
        · exact congrArg (fun x => [some (Blk.cells 29 (V.int .u64 x :: _)), _]) (set_eq (m 0) n).symm
        · rw [show upd m 0 (setW (m 0) n) = sett m n by unfold sett; rw [hi]]
          exact ⟨rfl, hi', hm, rfl, rfl⟩
      · rw [hi] at e1
        refine DrawP.intro tysOk mixed false ?_
        refine gdP (by rw [e1]; rfl) ?_
        rw [e1]
        refine ⟨by kernel_rfl, ?_⟩
        refine ⟨l.length - (i + 1), envS t b l (i + 1 : Nat), hpR (upd m 1 (setW (m 1) n)) t.cols t.lab t.base, ?_, .same ?_ ?_, i + 1, upd m 1 (setW (m 1) n), ?_⟩
        · omega
        · refine ⟨.inl rfl, .inl rfl, .inl rfl, .inl rfl, .inl rfl, .inl rfl, .inl rfl, .inl rfl, .inr rfl, .inl rfl, .inl rfl, .inl ?_, ?_⟩
          · exact congrArg (V.int .i64) (wrS i 1 (by omega))
          · repeat (first | exact trivial | refine ⟨.inl rfl, ?_⟩ | refine ⟨.inr rfl, ?_⟩)
        · exact congrArg (fun x => [some (Blk.cells 29 (_ :: V.int .u64 x :: _)), _]) (set_eq (m 1) n).symm
        · rw [show upd m 1 (setW (m 1) n) = sett m n by unfold sett; rw [hi]]
          exact ⟨rfl, hi', hm, rfl, rfl⟩
      · rw [hi] at e1
        refine DrawP.intro tysOk mixed false ?_
        refine gdP (by rw [e1]; rfl) ?_
        rw [e1]
        refine ⟨by kernel_rfl, ?_⟩
        refine ⟨l.length - (i + 1), envS t b l (i + 1 : Nat), hpR (upd m 2 (setW (m 2) n)) t.cols t.lab t.base, ?_, .same ?_ ?_, i + 1, upd m 2 (setW (m 2) n), ?_⟩
        · omega
        · refine ⟨.inl rfl, .inl rfl, .inl rfl, .inl rfl, .inl rfl, .inl rfl, .inl rfl, .inl rfl, .inr rfl, .inl rfl, .inl rfl, .inl ?_, ?_⟩
          · exact congrArg (V.int .i64) (wrS i 1 (by omega))
          · repeat (first | exact trivial | refine ⟨.inl rfl, ?_⟩ | refine ⟨.inr rfl, ?_⟩)
        · exact congrArg (fun x => [some (Blk.cells 29 (_ :: _ :: V.int .u64 x :: _)), _]) (set_eq (m 2) n).symm
        · rw [show upd m 2 (setW (m 2) n) = sett m n by unfold sett; rw [hi]]
          exact ⟨rfl, hi', hm, rfl, rfl⟩
      · rw [hi] at e1
        refine DrawP.intro tysOk mixed false ?_
        refine gdP (by rw [e1]; rfl) ?_
        rw [e1]
        refine ⟨by kernel_rfl, ?_⟩
        refine ⟨l.length - (i + 1), envS t b l (i + 1 : Nat), hpR (upd m 3 (setW (m 3) n)) t.cols t.lab t.base, ?_, .same ?_ ?_, i + 1, upd m 3 (setW (m 3) n), ?_⟩
        · omega
        · refine ⟨.inl rfl, .inl rfl, .inl rfl, .inl rfl, .inl rfl, .inl rfl, .inl rfl, .inl rfl, .inr rfl, .inl rfl, .inl rfl, .inl ?_, ?_⟩
          · exact congrArg (V.int .i64) (wrS i 1 (by omega))
          · repeat (first | exact trivial | refine ⟨.inl rfl, ?_⟩ | refine ⟨.inr rfl, ?_⟩)
        · exact congrArg (fun x => [some (Blk.cells 29 (_ :: _ :: _ :: V.int .u64 x :: _)), _]) (set_eq (m 3) n).symm
        · rw [show upd m 3 (setW (m 3) n) = sett m n by unfold sett; rw [hi]]
          exact ⟨rfl, hi', hm, rfl, rfl⟩
      · rw [hi] at e1
        refine DrawP.intro tysOk mixed false ?_
        refine gdP (by rw [e1]; rfl) ?_
        rw [e1]
        refine ⟨by kernel_rfl, ?_⟩
        refine ⟨l.length - (i + 1), envS t b l (i + 1 : Nat), hpR (upd m 4 (setW (m 4) n)) t.cols t.lab t.base, ?_, .same ?_ ?_, i + 1, upd m 4 (setW (m 4) n), ?_⟩
        · omega
        · refine ⟨.inl rfl, .inl rfl, .inl rfl, .inl rfl, .inl rfl, .inl rfl, .inl rfl, .inl rfl, .inr rfl, .inl rfl, .inl rfl, .inl ?_, ?_⟩
          · exact congrArg (V.int .i64) (wrS i 1 (by omega))
          · repeat (first | exact trivial | refine ⟨.inl rfl, ?_⟩ | refine ⟨.inr rfl, ?_⟩)
        · exact congrArg (fun x => [some (Blk.cells 29 (_ :: _ :: _ :: _ :: V.int .u64 x :: _)), _]) (set_eq (m 4) n).symm
        · rw [show upd m 4 (setW (m 4) n) = sett m n by unfold sett; rw [hi]]
          exact ⟨rfl, hi', hm, rfl, rfl⟩
      · rw [hi] at e1
        refine DrawP.intro tysOk mixed false ?_
        refine gdP (by rw [e1]; rfl) ?_
        rw [e1]
        refine ⟨by kernel_rfl, ?_⟩
        refine ⟨l.length - (i + 1), envS t b l (i + 1 : Nat), hpR (upd m 5 (setW (m 5) n)) t.cols t.lab t.base, ?_, .same ?_ ?_, i + 1, upd m 5 (setW (m 5) n), ?_⟩
        · omega
        · refine ⟨.inl rfl, .inl rfl, .inl rfl, .inl rfl, .inl rfl, .inl rfl, .inl rfl, .inl rfl, .inr rfl, .inl rfl, .inl rfl, .inl ?_, ?_⟩
          · exact congrArg (V.int .i64) (wrS i 1 (by omega))
          · repeat (first | exact trivial | refine ⟨.inl rfl, ?_⟩ | refine ⟨.inr rfl, ?_⟩)
        · exact congrArg (fun x => [some (Blk.cells 29 (_ :: _ :: _ :: _ :: _ :: V.int .u64 x :: _)), _]) (set_eq (m 5) n).symm
        · rw [show upd m 5 (setW (m 5) n) = sett m n by unfold sett; rw [hi]]
          exact ⟨rfl, hi', hm, rfl, rfl⟩
      · rw [hi] at e1
        refine DrawP.intro tysOk mixed false ?_
        refine gdP (by rw [e1]; rfl) ?_
        rw [e1]
        refine ⟨by kernel_rfl, ?_⟩
        refine ⟨l.length - (i + 1), envS t b l (i + 1 : Nat), hpR (upd m 6 (setW (m 6) n)) t.cols t.lab t.base, ?_, .same ?_ ?_, i + 1, upd m 6 (setW (m 6) n), ?_⟩
        · omega
        · refine ⟨.inl rfl, .inl rfl, .inl rfl, .inl rfl, .inl rfl, .inl rfl, .inl rfl, .inl rfl, .inr rfl, .inl rfl, .inl rfl, .inl ?_, ?_⟩
          · exact congrArg (V.int .i64) (wrS i 1 (by omega))
          · repeat (first | exact trivial | refine ⟨.inl rfl, ?_⟩ | refine ⟨.inr rfl, ?_⟩)
        · exact congrArg (fun x => [some (Blk.cells 29 (_ :: _ :: _ :: _ :: _ :: _ :: V.int .u64 x :: _)), _]) (set_eq (m 6) n).symm
        · rw [show upd m 6 (setW (m 6) n) = sett m n by unfold sett; rw [hi]]
          exact ⟨rfl, hi', hm, rfl, rfl⟩
      · rw [hi] at e1
        refine DrawP.intro tysOk mixed false ?_
        refine gdP (by rw [e1]; rfl) ?_
        rw [e1]
        refine ⟨by kernel_rfl, ?_⟩
        refine ⟨l.length - (i + 1), envS t b l (i + 1 : Nat), hpR (upd m 7 (setW (m 7) n)) t.cols t.lab t.base, ?_, .same ?_ ?_, i + 1, upd m 7 (setW (m 7) n), ?_⟩
        · omega
        · refine ⟨.inl rfl, .inl rfl, .inl rfl, .inl rfl, .inl rfl, .inl rfl, .inl rfl, .inl rfl, .inr rfl, .inl rfl, .inl rfl, .inl ?_, ?_⟩
          · exact congrArg (V.int .i64) (wrS i 1 (by omega))
          · repeat (first | exact trivial | refine ⟨.inl rfl, ?_⟩ | refine ⟨.inr rfl, ?_⟩)
        · exact congrArg (fun x => [some (Blk.cells 29 (_ :: _ :: _ :: _ :: _ :: _ :: _ :: V.int .u64 x :: _)), _]) (set_eq (m 7) n).symm
        · rw [show upd m 7 (setW (m 7) n) = sett m n by unfold sett; rw [hi]]
          exact ⟨rfl, hi', hm, rfl, rfl⟩
    · have hst : stepS t.cols m c = m := by
        unfold stepS
        rw [if_neg]
        rintro ⟨h1, h2⟩
        simp [Tb.there, h1, h2] at hth
      rw [hst] at hm
      refine ⟨l.length - (i + 1), envS t b l (i + 1 : Nat), hpR m t.cols t.lab t.base, by omega, .same ?_ rfl, i + 1, m, rfl, hi', hm, rfl, rfl⟩
      refine ⟨.inl rfl, .inl rfl, .inl rfl, .inl rfl, .inl rfl, .inl rfl, .inl rfl, .inl rfl, .inr rfl, .inl rfl, .inl rfl, .inl ?_, ?_⟩
      · exact congrArg (V.int .i64) (wrS i 1 (by omega))
      · repeat (first | exact trivial | refine ⟨.inl rfl, ?_⟩ | refine ⟨.inr rfl, ?_⟩)
  · have hge : l.length ≤ i := by have := of_decide_eq_false h; omega
    rw [List.drop_eq_nil_of_le hge] at hm
    refine (raise_fn ⟨m, t.cols, t.lab, t.base⟩ b).sem _ ?_
    show Tb.v ⟨m, t.cols, jn2 t.lab b, t.base⟩ = (t.put b l).v
    rw [show m = l.foldl (stepS t.cols) t.w from hm]; rfl
def stepC (cols : Int) (w : Nat → Nat) (c : Int) : Nat → Nat := if 0 ≤ c ∧ c < cols then clr w c.toNat else w
def Tb.clear (t : Tb) (b : Int) (l : List Int) : Tb := ⟨l.foldl (stepC t.cols) t.w, t.cols, jn2 t.lab b, t.base⟩
theorem clear_fn (t : Tb) (ht : t.ok) (b : Int) (l : List Int) (hl : l.length < 1000000) : Fn Tryd.prog 20 [t.v, .int .u8 b, .psl 1 (colsV l) .any] (t.clear b l).v := by
  have hc0 := ht.c0
  have hc1 := ht.c1
  have hlen := colsV_len l
  refine Fn.of_body tysOk md0 Tryd.func20 rfl rfl rfl rfl ?_
  refine LoopP.inv (md := md0) (fun k env h => ∃ (i : Nat) (m : Nat → Nat), k = l.length - i ∧ i ≤ l.length ∧ (l.drop i).foldl (stepC t.cols) m = l.foldl (stepC t.cols) t.w ∧ env = envS t b l i ∧ h = hpR m t.cols t.lab t.base) l.length ⟨envS t b l 0, _, .same (by repeat (first | exact trivial | refine ⟨.inl rfl, ?_⟩ | refine ⟨.inr rfl, ?_⟩)) rfl, 0, t.w, rfl, Nat.zero_le _, rfl, rfl, rfl⟩ ?_
  rintro k _ _ ⟨i, m, rfl, hil, hm, rfl, rfl⟩
  refine ⟨fun h => ?_, fun h => ?_⟩
  · have hi' : i < l.length := by have := of_decide_eq_true h; omega
    obtain ⟨c, hc⟩ : ∃ c, l[i]? = some c := ⟨_, List.getElem?_eq_getElem hi'⟩
    rw [drop_fold _ _ _ _ hc] at hm
    refine ⟨[.int .i64 c], ⟨by omega, colsV_get hc⟩, ?_⟩
    refine (there_fn ⟨m, t.cols, t.lab, t.base⟩ c).sem _ ?_
    refine ⟨fun hth => ?_, fun hth => ?_⟩
    · unfold Tb.there at hth
      simp only [Bool.and_eq_true, decide_eq_true_eq] at hth
      obtain ⟨n, rfl⟩ : ∃ n : Nat, c = (n : Int) := ⟨c.toNat, by omega⟩
      have hst : stepC t.cols m (n : Int) = clr m n := by unfold stepC; rw [if_pos hth, Int.toNat_natCast]
      rw [hst] at hm
      have e1 := td64 n (by omega)
      rcases split8 (show n / 64 < 8 by omega) with hi | hi | hi | hi | hi | hi | hi | hi
      · rw [hi] at e1
        refine DrawP.intro tysOk mixed false ?_
        refine gdP (by rw [e1]; rfl) ?_
        rw [e1]
        refine ⟨by kernel_rfl, ?_⟩
        refine ⟨l.length - (i + 1), envS t b l (i + 1 : Nat), hpR (upd m 0 (clrW (m 0) n)) t.cols t.lab t.base, ?_, .same ?_ ?_, i + 1, upd m 0 (clrW (m 0) n), ?_⟩
        · omega
        · refine ⟨.inl rfl, .inl rfl, .inl rfl, .inl rfl, .inl rfl, .inl rfl, .inl rfl, .inl rfl, .inr rfl, .inl rfl, .inl rfl, .inl ?_, ?_⟩
          · exact congrArg (V.int .i64) (wrS i 1 (by omega))
          · repeat (first | exact trivial | refine ⟨.inl rfl, ?_⟩ | refine ⟨.inr rfl, ?_⟩)
        · exact congrArg (fun x => [some (Blk.cells 29 (V.int .u64 x :: _)), _]) (clr_eq (m 0) n).symm
        · rw [show upd m 0 (clrW (m 0) n) = clr m n by unfold clr; rw [hi]]
          exact ⟨rfl, hi', hm, rfl, rfl⟩
      · rw [hi] at e1
        refine DrawP.intro tysOk mixed false ?_
        refine gdP (by rw [e1]; rfl) ?_
        rw [e1]
        refine ⟨by kernel_rfl, ?_⟩
        refine ⟨l.length - (i + 1), envS t b l (i + 1 : Nat), hpR (upd m 1 (clrW (m 1) n)) t.cols t.lab t.base, ?_, .same ?_ ?_, i + 1, upd m 1 (clrW (m 1) n), ?_⟩
        · omega
        · refine ⟨.inl rfl, .inl rfl, .inl rfl, .inl rfl, .inl rfl, .inl rfl, .inl rfl, .inl rfl, .inr rfl, .inl rfl, .inl rfl, .inl ?_, ?_⟩
          · exact congrArg (V.int .i64) (wrS i 1 (by omega))
          · repeat (first | exact trivial | refine ⟨.inl rfl, ?_⟩ | refine ⟨.inr rfl, ?_⟩)
        · exact congrArg (fun x => [some (Blk.cells 29 (_ :: V.int .u64 x :: _)), _]) (clr_eq (m 1) n).symm
        · rw [show upd m 1 (clrW (m 1) n) = clr m n by unfold clr; rw [hi]]
          exact ⟨rfl, hi', hm, rfl, rfl⟩
      · rw [hi] at e1
        refine DrawP.intro tysOk mixed false ?_
        refine gdP (by rw [e1]; rfl) ?_
        rw [e1]
        refine ⟨by kernel_rfl, ?_⟩
        refine ⟨l.length - (i + 1), envS t b l (i + 1 : Nat), hpR (upd m 2 (clrW (m 2) n)) t.cols t.lab t.base, ?_, .same ?_ ?_, i + 1, upd m 2 (clrW (m 2) n), ?_⟩
        · omega
        · refine ⟨.inl rfl, .inl rfl, .inl rfl, .inl rfl, .inl rfl, .inl rfl, .inl rfl, .inl rfl, .inr rfl, .inl rfl, .inl rfl, .inl ?_, ?_⟩
          · exact congrArg (V.int .i64) (wrS i 1 (by omega))
          · repeat (first | exact trivial | refine ⟨.inl rfl, ?_⟩ | refine ⟨.inr rfl, ?_⟩)
        · exact congrArg (fun x => [some (Blk.cells 29 (_ :: _ :: V.int .u64 x :: _)), _]) (clr_eq (m 2) n).symm
        · rw [show upd m 2 (clrW (m 2) n) = clr m n by unfold clr; rw [hi]]
          exact ⟨rfl, hi', hm, rfl, rfl⟩
      · rw [hi] at e1
        refine DrawP.intro tysOk mixed false ?_
        refine gdP (by rw [e1]; rfl) ?_
        rw [e1]
        refine ⟨by kernel_rfl, ?_⟩
        refine ⟨l.length - (i + 1), envS t b l (i + 1 : Nat), hpR (upd m 3 (clrW (m 3) n)) t.cols t.lab t.base, ?_, .same ?_ ?_, i + 1, upd m 3 (clrW (m 3) n), ?_⟩
        · omega
        · refine ⟨.inl rfl, .inl rfl, .inl rfl, .inl rfl, .inl rfl, .inl rfl, .inl rfl, .inl rfl, .inr rfl, .inl rfl, .inl rfl, .inl ?_, ?_⟩
          · exact congrArg (V.int .i64) (wrS i 1 (by omega))
          · repeat (first | exact trivial | refine ⟨.inl rfl, ?_⟩ | refine ⟨.inr rfl, ?_⟩)
        · exact congrArg (fun x => [some (Blk.cells 29 (_ :: _ :: _ :: V.int .u64 x :: _)), _]) (clr_eq (m 3) n).symm
        · rw [show upd m 3 (clrW (m 3) n) = clr m n by unfold clr; rw [hi]]
          exact ⟨rfl, hi', hm, rfl, rfl⟩
      · rw [hi] at e1
        refine DrawP.intro tysOk mixed false ?_
        refine gdP (by rw [e1]; rfl) ?_
        rw [e1]
        refine ⟨by kernel_rfl, ?_⟩
        refine ⟨l.length - (i + 1), envS t b l (i + 1 : Nat), hpR (upd m 4 (clrW (m 4) n)) t.cols t.lab t.base, ?_, .same ?_ ?_, i + 1, upd m 4 (clrW (m 4) n), ?_⟩
        · omega
        · refine ⟨.inl rfl, .inl rfl, .inl rfl, .inl rfl, .inl rfl, .inl rfl, .inl rfl, .inl rfl, .inr rfl, .inl rfl, .inl rfl, .inl ?_, ?_⟩
          · exact congrArg (V.int .i64) (wrS i 1 (by omega))
          · repeat (first | exact trivial | refine ⟨.inl rfl, ?_⟩ | refine ⟨.inr rfl, ?_⟩)
        · exact congrArg (fun x => [some (Blk.cells 29 (_ :: _ :: _ :: _ :: V.int .u64 x :: _)), _]) (clr_eq (m 4) n).symm
        · rw [show upd m 4 (clrW (m 4) n) = clr m n by unfold clr; rw [hi]]
          exact ⟨rfl, hi', hm, rfl, rfl⟩
      · rw [hi] at e1
        refine DrawP.intro tysOk mixed false ?_
        refine gdP (by rw [e1]; rfl) ?_
        rw [e1]
        refine ⟨by kernel_rfl, ?_⟩
        refine ⟨l.length - (i + 1), envS t b l (i + 1 : Nat), hpR (upd m 5 (clrW (m 5) n)) t.cols t.lab t.base, ?_, .same ?_ ?_, i + 1, upd m 5 (clrW (m 5) n), ?_⟩
        · omega
        · refine ⟨.inl rfl, .inl rfl, .inl rfl, .inl rfl, .inl rfl, .inl rfl, .inl rfl, .inl rfl, .inr rfl, .inl rfl, .inl rfl, .inl ?_, ?_⟩
          · exact congrArg (V.int .i64) (wrS i 1 (by omega))
          · repeat (first | exact trivial | refine ⟨.inl rfl, ?_⟩ | refine ⟨.inr rfl, ?_⟩)
        · exact congrArg (fun x => [some (Blk.cells 29 (_ :: _ :: _ :: _ :: _ :: V.int .u64 x :: _)), _]) (clr_eq (m 5) n).symm
        · rw [show upd m 5 (clrW (m 5) n) = clr m n by unfold clr; rw [hi]]
          exact ⟨rfl, hi', hm, rfl, rfl⟩
      · rw [hi] at e1
        refine DrawP.intro tysOk mixed false ?_
        refine gdP (by rw [e1]; rfl) ?_
        rw [e1]
        refine ⟨by kernel_rfl, ?_⟩
        refine ⟨l.length - (i + 1), envS t b l (i + 1 : Nat), hpR (upd m 6 (clrW (m 6) n)) t.cols t.lab t.base, ?_, .same ?_ ?_, i + 1, upd m 6 (clrW (m 6) n), ?_⟩
        · omega
        · refine ⟨.inl rfl, .inl rfl, .inl rfl, .inl rfl, .inl rfl, .inl rfl, .inl rfl, .inl rfl, .inr rfl, .inl rfl, .inl rfl, .inl ?_, ?_⟩
          · exact congrArg (V.int .i64) (wrS i 1 (by omega))
          · repeat (first | exact trivial | refine ⟨.inl rfl, ?_⟩ | refine ⟨.inr rfl, ?_⟩)
        · exact congrArg (fun x => [some (Blk.cells 29 (_ :: _ :: _ :: _ :: _ :: _ :: V.int .u64 x :: _)), _]) (clr_eq (m 6) n).symm
        · rw [show upd m 6 (clrW (m 6) n) = clr m n by unfold clr; rw [hi]]
          exact ⟨rfl, hi', hm, rfl, rfl⟩
      · rw [hi] at e1
        refine DrawP.intro tysOk mixed false ?_
        refine gdP (by rw [e1]; rfl) ?_
        rw [e1]
        refine ⟨by kernel_rfl, ?_⟩
        refine ⟨l.length - (i + 1), envS t b l (i + 1 : Nat), hpR (upd m 7 (clrW (m 7) n)) t.cols t.lab t.base, ?_, .same ?_ ?_, i + 1, upd m 7 (clrW (m 7) n), ?_⟩
        · omega
        · refine ⟨.inl rfl, .inl rfl, .inl rfl, .inl rfl, .inl rfl, .inl rfl, .inl rfl, .inl rfl, .inr rfl, .inl rfl, .inl rfl, .inl ?_, ?_⟩
          · exact congrArg (V.int .i64) (wrS i 1 (by omega))
          · repeat (first | exact trivial | refine ⟨.inl rfl, ?_⟩ | refine ⟨.inr rfl, ?_⟩)
        · exact congrArg (fun x => [some (Blk.cells 29 (_ :: _ :: _ :: _ :: _ :: _ :: _ :: V.int .u64 x :: _)), _]) (clr_eq (m 7) n).symm
        · rw [show upd m 7 (clrW (m 7) n) = clr m n by unfold clr; rw [hi]]
          exact ⟨rfl, hi', hm, rfl, rfl⟩
    · have hst : stepC t.cols m c = m := by
        unfold stepC
        rw [if_neg]
        rintro ⟨h1, h2⟩
        simp [Tb.there, h1, h2] at hth
      rw [hst] at hm
      refine ⟨l.length - (i + 1), envS t b l (i + 1 : Nat), hpR m t.cols t.lab t.base, by omega, .same ?_ rfl, i + 1, m, rfl, hi', hm, rfl, rfl⟩
      refine ⟨.inl rfl, .inl rfl, .inl rfl, .inl rfl, .inl rfl, .inl rfl, .inl rfl, .inl rfl, .inr rfl, .inl rfl, .inl rfl, .inl ?_, ?_⟩
      · exact congrArg (V.int .i64) (wrS i 1 (by omega))
      · repeat (first | exact trivial | refine ⟨.inl rfl, ?_⟩ | refine ⟨.inr rfl, ?_⟩)
  · have hge : l.length ≤ i := by have := of_decide_eq_false h; omega
    rw [List.drop_eq_nil_of_le hge] at hm
    refine (raise_fn ⟨m, t.cols, t.lab, t.base⟩ b).sem _ ?_
    show Tb.v ⟨m, t.cols, jn2 t.lab b, t.base⟩ = (t.clear b l).v
    rw [show m = l.foldl (stepC t.cols) t.w from hm]; rfl
end Go.Cx
