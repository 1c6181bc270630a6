/- What functions of this seat compute, each for every argument of the shapes that are named; no condition beside the stated ones. -/
import Derived.Test.YtifdekgmoekegaaDoorLT4g
import Derived.Test.YtifdekgmoekegaaDoorCards
import Derived.Test.YtifdekgmoekegaaDoorTie
import Derived.WalkKit
import Derived.ProofKit
import Derived.OpenShut
import Derived.Deep.DeepHandedRow
import Derived.Lib.LaidTab
namespace Go.Cx
open Go.Proofs
set_option maxRecDepth 100000
set_option maxHeartbeats 1000000
theorem Sem.res {P : Program} {g : FuncId} {args : List V} {h : Heap} {K : V → Heap → Prop} (k : Sem P g args h fun v h' => ∃ u, forgT1 v u ∧ K u h') : Sem P g args h K :=
  ⟨fun φ μ B w cargs hB r ha => (k.run φ μ B w cargs hB r ha).mono fun _ _ ⟨_, h', φ', μ', cv, e1, ⟨u, hf, hK⟩, hv, rest⟩ => ⟨u, h', φ', μ', cv, e1, hK, forgT1_ok hv hf, rest⟩⟩

structure Ac where
  what : Int
  high : Bool
  l : List Int
  cols : Int
def lV (l : List Int) : List (List V) := l.map fun c => [.int .i16 c]
theorem lV_len (l : List Int) : (lV l).length = l.length := by simp [lV]
theorem lV_get {l : List Int} {i : Nat} {c : Int} (h : l[i]? = some c) : (lV l)[i]? = some [.int .i16 c] := by simp [lV, h]
def Ac.cs (a : Ac) : List V := [.int .u8 a.what, .bool a.high, .psl 1 (lV a.l) .any, .int .i16 a.cols]
def Ac.v (a : Ac) : V := .agg a.cs
structure Ac.ok (a : Ac) : Prop where
  w0 : 0 ≤ a.what
  w1 : a.what < 256
  c0 : -32768 ≤ a.cols
  c1 : a.cols < 32768
  l : ∀ x ∈ a.l, -32768 ≤ x ∧ x < 32768
  len : a.l.length ≤ maxLen
def Ac.by (a : Ac) : Int := if a.high then 1 else 0
def Ac.cl (a : Ac) : List Int := a.l.take 10
theorem by_fn (a : Ac) : Fn Tryd.prog 19 [a.v] (.int .u8 a.by) := by
  refine Fn.of_body tysOk md0 Tryd.func19 rfl rfl rfl rfl ?_
  refine ⟨fun h => ?_, fun h => ?_⟩
  · show V.int .u8 1 = _
    unfold Ac.by; rw [if_pos h]
  · show V.int .u8 0 = _
    unfold Ac.by; rw [if_neg (by rw [h]; simp)]
def outC (i : Nat) (l : List Int) : V := match i with | 0 => .nils | _ => .psl 1 (colsV l) (.own 1)
def hpC (a : Ac) (i : Nat) : Heap := match i with | 0 => [some (.cells 34 a.cs)] | _ => [some (.cells 34 a.cs), some (.token 1 i)]
def envC (a : Ac) (i : Nat) : List V := a.v :: .ptr 0 0 :: .nils :: outC i (a.l.take i) :: .int .i64 (i : Nat) :: List.replicate 21 .undef
theorem acols_fn (a : Ac) (ha : a.ok) : Fn Tryd.prog 17 [a.v] (.psl 1 (colsV a.cl) .any) := by
  refine ⟨rfl, rfl, Sem.res (Sem.of_body tysOk md0 Tryd.func17 rfl rfl ?_)⟩
  refine LoopP.inv (md := md0) (fun k env h => ∃ (i : Nat), k = 10 - i ∧ i ≤ a.l.length ∧ i ≤ 10 ∧ env = envC a i ∧ h = hpC a i) 10 ⟨envC a 0, _, .same (by repeat (first | exact trivial | refine ⟨.inl rfl, ?_⟩ | refine ⟨.inr rfl, ?_⟩)) rfl, 0, rfl, Nat.zero_le _, Nat.zero_le _, rfl, rfl⟩ ?_
  rintro k _ _ ⟨i, rfl, hil, hi10, rfl, rfl⟩
  cases i with
  | zero =>
    refine ⟨fun h => ?_, fun h => ?_⟩
    · have hl : 0 < (lV a.l).length := by have := of_decide_eq_true h; omega
      rw [lV_len] at hl
      repeat (first | refine BCase.yes rfl ?_ | refine BCase.no rfl ?_)
      obtain ⟨x, hx⟩ : ∃ x, a.l[0]? = some x := ⟨_, List.getElem?_eq_getElem hl⟩
      refine ⟨[.int .i16 x], ⟨by omega, lV_get hx⟩, ?_⟩
      have hxr := ha.l x (List.mem_of_getElem? hx)
      have ht : a.l.take 1 = [x] := by
        cases hal : a.l with
        | nil => rw [hal] at hl; simp at hl
        | cons y ys => rw [hal] at hx; simp at hx; simp [hx]
      refine ⟨9, envC a 1, hpC a 1, by omega, .same ?_ rfl, 1, rfl, hl, by omega, rfl, rfl⟩
      refine ⟨.inl rfl, .inl rfl, .inl rfl, .inl ?_, .inl rfl, ?_⟩
      · show V.psl 1 (colsV (a.l.take 1)) (.own 1) = V.psl 1 [[.int .i64 (IntKind.i64.wrap x)]] (.own 1)
        rw [ht, wr64 (by omega) (by omega)]; rfl
      · repeat (first | exact trivial | refine ⟨.inl rfl, ?_⟩ | refine ⟨.inr rfl, ?_⟩)
    · repeat (first | refine BCase.yes rfl ?_ | refine BCase.no rfl ?_)
      have hl : ¬ 0 < (lV a.l).length := by have := of_decide_eq_false h; omega
      rw [lV_len] at hl
      refine ⟨_, .inr (.inr (.inr ⟨rfl, 1, rfl⟩)), ?_⟩
      have : a.l = [] := List.length_eq_zero_iff.1 (by omega)
      unfold Ac.cl; rw [this]; rfl
  | succ i =>
    have hlen : (colsV (a.l.take (i + 1))).length = i + 1 := by rw [colsV_len, List.length_take]; omega
    have done : (10 ≤ i + 1 ∨ a.l.length ≤ i + 1) → a.cl = a.l.take (i + 1) := fun h => by
      unfold Ac.cl
      rcases h with h | h
      · rw [show i + 1 = 10 by omega]
      · rw [List.take_of_length_le (by omega), List.take_of_length_le (by omega)]
    refine ⟨fun h => ?_, fun h => ?_⟩
    · have hl : i + 1 < (lV a.l).length := by have := of_decide_eq_true h; omega
      rw [lV_len] at hl
      repeat (first | refine BCase.yes rfl ?_ | refine BCase.no rfl ?_)
      refine ⟨fun h => ?_, fun h => ?_⟩
      · have h10 : i + 1 < 10 := by have := of_decide_eq_true h; omega
        obtain ⟨x, hx⟩ : ∃ x, a.l[i + 1]? = some x := ⟨_, List.getElem?_eq_getElem hl⟩
        refine ⟨[.int .i16 x], ⟨by omega, lV_get hx⟩, ?_⟩
        have hxr := ha.l x (List.mem_of_getElem? hx)
        have ht : colsV (a.l.take (i + 1)) ++ [[.int .i64 (IntKind.i64.wrap x)]] = colsV (a.l.take (i + 2)) := by
          have e : a.l.take (i + 2) = a.l.take (i + 1) ++ [x] := by rw [List.take_add_one (i := i + 1), hx]; rfl
          rw [wr64 (by omega) (by omega), e]; simp [colsV]
        refine gdP rfl ?_
        refine gdP ?_ ?_
        · show (Nat.beq 1 1 && Nat.beq 1 1 && Nat.beq (i + 1) (colsV (a.l.take (i + 1))).length && (Nat.blt 0 1 && Nat.blt 0 8 && Nat.ble (((colsV (a.l.take (i + 1))).length + 1) * (2 * 8)) 281474976710656)) = true
          rw [hlen]
          simp only [Bool.and_eq_true]
          exact ⟨⟨⟨rfl, rfl⟩, Nat.beq_refl _⟩, ⟨rfl, rfl⟩, Nat.ble_eq_true_of_le (by omega)⟩
        refine ⟨10 - (i + 2), envC a (i + 2), hpC a (i + 2), by omega, .same ?_ ?_, i + 2, rfl, hl, by omega, rfl, rfl⟩
        · refine ⟨.inl rfl, .inl rfl, .inl rfl, .inl ?_, .inl ?_, ?_⟩
          · exact congrArg (fun l => V.psl 1 l (.own 1)) ht.symm
          · exact congrArg (V.int .i64) (wrS (i + 1) 1 (by omega))
          · repeat (first | exact trivial | refine ⟨.inl rfl, ?_⟩ | refine ⟨.inr rfl, ?_⟩)
        · exact congrArg (fun n => [some (Blk.cells 34 a.cs), some (Blk.token 1 n)]) (show i + 2 = (colsV (a.l.take (i + 1))).length + 1 by rw [hlen])
      · have h10 : 10 ≤ i + 1 := by have := of_decide_eq_false h; omega
        refine ⟨_, .inr (.inr (.inl ⟨_, _, _, rfl, rfl⟩)), ?_⟩
        rw [done (.inl h10)]
    · repeat (first | refine BCase.yes rfl ?_ | refine BCase.no rfl ?_)
      have hl : ¬ i + 1 < (lV a.l).length := by have := of_decide_eq_false h; omega
      rw [lV_len] at hl
      refine ⟨_, .inr (.inr (.inl ⟨_, _, _, rfl, rfl⟩)), ?_⟩
      rw [done (.inr (by omega))]

def Ac.does (a : Ac) (t : Tb) : Tb :=
  if a.what % 9 = 3 ∨ a.what % 9 = 4 then t.clear a.by a.cl
  else if a.what % 9 = 5 then t.none
  else if a.what % 9 = 6 then t.raise a.by
  else if a.what % 9 = 7 then t.decl
  else if a.what % 9 = 8 then t.resize a.cols
  else t.put a.by a.cl
theorem does_fn (a : Ac) (ha : a.ok) (t : Tb) (ht : t.ok) : Fn Tryd.prog 10 [a.v, t.v] (a.does t).v := by
  have hcl : a.cl.length < 1000000 := by unfold Ac.cl; rw [List.length_take]; omega
  have w0 := ha.w0
  have w1 := ha.w1
  have c0 := ha.c0
  have c1 := ha.c1
  have em : a.what.tmod 9 = a.what % 9 := Int.tmod_eq_emod_of_nonneg w0
  have eq : ∀ k : Int, (a.what.tmod 9 == k) = true → a.what % 9 = k := fun k h => by rw [em] at h; simpa using h
  have ne : ∀ k : Int, (a.what.tmod 9 == k) = false → a.what % 9 ≠ k := fun k h => by rw [em] at h; simpa using h
  have fin : ∀ u : Tb, a.does t = u → u.v = (a.does t).v := fun u h => by rw [h]
  refine Fn.of_body tysOk md0 Tryd.func10 rfl rfl rfl rfl ?_
  refine ⟨fun h3 => ?_, fun h3 => ?_⟩
  · refine BCase.yes h3 ?_
    refine DrawP.intro tysOk mixed false ?_
    refine ⟨_, (by_fn a).callT _ _, ?_⟩
    refine ⟨_, (acols_fn a ha).callT _ _, ?_⟩
    refine ⟨_, (clear_fn t ht a.by a.cl hcl).callT _ _, ?_⟩
    refine ⟨by kernel_rfl, ?_⟩
    refine fin (t.clear a.by a.cl) ?_
    unfold Ac.does
    rw [if_pos (.inl (eq _ h3))]
  refine ⟨fun h4 => ?_, fun h4 => ?_⟩
  · refine DrawP.intro tysOk mixed false ?_
    refine ⟨_, (by_fn a).callT _ _, ?_⟩
    refine ⟨_, (acols_fn a ha).callT _ _, ?_⟩
    refine ⟨_, (clear_fn t ht a.by a.cl hcl).callT _ _, ?_⟩
    refine ⟨by kernel_rfl, ?_⟩
    refine fin (t.clear a.by a.cl) ?_
    unfold Ac.does
    rw [if_pos (.inr (eq _ h4))]
  have n34 : ¬ (a.what % 9 = 3 ∨ a.what % 9 = 4) := fun h => h.elim (ne _ h3) (ne _ h4)
  refine ⟨fun h5 => ?_, fun h5 => ?_⟩
  · refine (none_fn t).sem _ ?_
    refine fin t.none ?_
    unfold Ac.does
    rw [if_neg n34, if_pos (eq _ h5)]
  refine ⟨fun h6 => ?_, fun h6 => ?_⟩
  · refine DrawP.intro tysOk mixed false ?_
    refine ⟨_, (by_fn a).callT _ _, ?_⟩
    refine ⟨_, (raise_fn t a.by).callT _ _, ?_⟩
    refine ⟨by kernel_rfl, ?_⟩
    refine fin (t.raise a.by) ?_
    unfold Ac.does
    rw [if_neg n34, if_neg (ne _ h5), if_pos (eq _ h6)]
  refine ⟨fun h7 => ?_, fun h7 => ?_⟩
  · refine (decl_fn t).sem _ ?_
    refine fin t.decl ?_
    unfold Ac.does
    rw [if_neg n34, if_neg (ne _ h5), if_neg (ne _ h6), if_pos (eq _ h7)]
  refine ⟨fun h8 => ?_, fun h8 => ?_⟩
  · refine (resize_fn t ht _).sem _ ?_
    rw [wr64 (n := a.cols) (by omega) (by omega)]
    refine fin (t.resize a.cols) ?_
    unfold Ac.does
    rw [if_neg n34, if_neg (ne _ h5), if_neg (ne _ h6), if_neg (ne _ h7), if_pos (eq _ h8)]
  refine DrawP.intro tysOk mixed false ?_
  refine ⟨_, (by_fn a).callT _ _, ?_⟩
  refine ⟨_, (acols_fn a ha).callT _ _, ?_⟩
  refine ⟨_, (put_fn t ht a.by a.cl hcl).callT _ _, ?_⟩
  refine ⟨by kernel_rfl, ?_⟩
  refine fin (t.put a.by a.cl) ?_
  unfold Ac.does
  rw [if_neg n34, if_neg (ne _ h5), if_neg (ne _ h6), if_neg (ne _ h7), if_neg (ne _ h8)]
end Go.Cx
namespace Go.Cx
open Go.Proofs
set_option maxRecDepth 100000
set_option maxHeartbeats 1000000
theorem clrN_bit (c : Nat) : ∀ (n : Nat) (w : Nat → Nat) (a : Nat), bit (clrN w a n) c = (bit w c && !(decide (a ≤ c) && decide (c < a + n)))
  | 0, w, a => by
    have : (decide (a ≤ c) && decide (c < a + 0)) = false := by
      simp only [Bool.and_eq_false_iff, decide_eq_false_iff_not]; omega
    rw [this]; simp [clrN]
  | n + 1, w, a => by
    rw [clrN, clrN_bit c n, clr_bit]
    by_cases h1 : c = a
    · subst h1
      have : (decide (c ≤ c) && decide (c < c + (n + 1))) = true := by simp
      rw [this]; simp
    · have : (decide (a ≤ c) && decide (c < a + (n + 1))) = (decide (a + 1 ≤ c) && decide (c < a + 1 + n)) := by
        rw [Bool.eq_iff_iff]; simp only [Bool.and_eq_true, decide_eq_true_eq]; omega
      rw [this]; simp [h1]
theorem setN_bit (c : Nat) : ∀ (n : Nat) (w : Nat → Nat) (a : Nat), bit (setN w a n) c = (bit w c || (decide (a ≤ c) && decide (c < a + 8 * n) && decide ((c - a) % 8 = 0)))
  | 0, w, a => by
    have : (decide (a ≤ c) && decide (c < a + 8 * 0)) = false := by
      simp only [Bool.and_eq_false_iff, decide_eq_false_iff_not]; omega
    rw [this]; simp [setN]
  | n + 1, w, a => by
    rw [setN, setN_bit c n, sett_bit]
    by_cases h1 : c = a
    · subst h1; simp
    · have : (decide (a ≤ c) && decide (c < a + 8 * (n + 1)) && decide ((c - a) % 8 = 0)) = (decide (a + 8 ≤ c) && decide (c < a + 8 + 8 * n) && decide ((c - (a + 8)) % 8 = 0)) := by
        rw [Bool.eq_iff_iff]; simp only [Bool.and_eq_true, decide_eq_true_eq]; omega
      rw [this]; simp [h1]
theorem clrN_ok : ∀ (n : Nat) (w : Nat → Nat) (a : Nat), okW w → okW (clrN w a n)
  | 0, _, _, h => h
  | n + 1, _, a, h => clrN_ok n _ _ (clr_ok h a)
theorem setN_ok : ∀ (n : Nat) (w : Nat → Nat) (a : Nat), okW w → okW (setN w a n)
  | 0, _, _, h => h
  | n + 1, _, a, h => setN_ok n _ _ (sett_ok h a)

/-- No bit stands behind the last column. -/
structure Tb.good (t : Tb) : Prop where
  ok : t.ok
  clean : ∀ c : Nat, t.n ≤ c → bit t.w c = false
def firstB (c : Nat) : Bool := decide (0 < c) && decide (c % 8 = 0)
theorem clampN_le (n : Int) : clampN n ≤ 512 := by unfold clampN; omega
theorem resize_n (t : Tb) (n : Int) : (t.resize n).n = clampN n := by unfold Tb.n Tb.resize; simp
theorem resize_bit (t : Tb) (ht : t.good) (n : Int) (c : Nat) : bit (t.resize n).w c = (decide (c < clampN n) && if c < t.n then bit t.w c else firstB c) := by
  show bit (resizeW t (clampN n)) c = _
  unfold resizeW
  rw [setN_bit, clrN_bit]
  have h1 := ht.clean c
  generalize clampN n = cl at *
  generalize t.n = was at *
  unfold fromN firstB
  by_cases hc : c < was
  · rw [if_pos hc]
    have e : (decide (max 8 ((was + 7) / 8 * 8) ≤ c) && decide (c < max 8 ((was + 7) / 8 * 8) + 8 * ((cl - max 8 ((was + 7) / 8 * 8) + 7) / 8)) && decide ((c - max 8 ((was + 7) / 8 * 8)) % 8 = 0)) = false := by
      have : decide (max 8 ((was + 7) / 8 * 8) ≤ c) = false := by simp; omega
      rw [this]; rfl
    rw [e, Bool.or_false, Bool.and_comm]
    congr 1
    rw [Bool.eq_iff_iff]; simp; omega
  · rw [if_neg hc, h1 (by omega), Bool.false_and, Bool.false_or]
    rw [Bool.eq_iff_iff]; simp only [Bool.and_eq_true, decide_eq_true_eq]; omega
theorem resize_good {t : Tb} (ht : t.good) (n : Int) : (t.resize n).good := by
  refine ⟨⟨by show (0 : Int) ≤ (clampN n : Nat); omega, by show ((clampN n : Nat) : Int) ≤ 512; have := clampN_le n; omega, setN_ok _ _ _ (clrN_ok _ _ _ ht.ok.w)⟩, fun c hc => ?_⟩
  rw [resize_n] at hc
  rw [resize_bit t ht]
  have : decide (c < clampN n) = false := by simp; omega
  rw [this]; rfl
theorem zero_good (b : Int) : (Tb.mk (fun _ => 0) 0 b b).good := ⟨⟨Int.le_refl _, by show (0 : Int) ≤ 512; omega, fun _ => by simp⟩, fun c _ => by unfold bit; simp⟩
theorem foldS_good (cols : Int) (h0 : 0 ≤ cols) : ∀ (l : List Int) (w : Nat → Nat), okW w → (∀ c : Nat, cols.toNat ≤ c → bit w c = false) → okW (l.foldl (stepS cols) w) ∧ ∀ c : Nat, cols.toNat ≤ c → bit (l.foldl (stepS cols) w) c = false
  | [], w, h1, h2 => ⟨h1, h2⟩
  | x :: l, w, h1, h2 => by
    rw [List.foldl_cons]
    unfold stepS
    split
    · rename_i hx
      refine foldS_good cols h0 l _ (sett_ok h1 _) fun c hc => ?_
      rw [sett_bit, h2 c hc]
      have : c ≠ x.toNat := by omega
      simp [this]
    · exact foldS_good cols h0 l w h1 h2
theorem foldC_good (cols : Int) : ∀ (l : List Int) (w : Nat → Nat), okW w → (∀ c : Nat, cols.toNat ≤ c → bit w c = false) → okW (l.foldl (stepC cols) w) ∧ ∀ c : Nat, cols.toNat ≤ c → bit (l.foldl (stepC cols) w) c = false
  | [], w, h1, h2 => ⟨h1, h2⟩
  | x :: l, w, h1, h2 => by
    rw [List.foldl_cons]
    unfold stepC
    split
    · refine foldC_good cols l _ (clr_ok h1 _) fun c hc => ?_
      rw [clr_bit, h2 c hc]; rfl
    · exact foldC_good cols l w h1 h2
theorem put_good {t : Tb} (ht : t.good) (b : Int) (l : List Int) : (t.put b l).good :=
  have h := foldS_good t.cols ht.ok.c0 l t.w ht.ok.w ht.clean
  ⟨⟨ht.ok.c0, ht.ok.c1, h.1⟩, h.2⟩
theorem clear_good {t : Tb} (ht : t.good) (b : Int) (l : List Int) : (t.clear b l).good :=
  have h := foldC_good t.cols l t.w ht.ok.w ht.clean
  ⟨⟨ht.ok.c0, ht.ok.c1, h.1⟩, h.2⟩
theorem raise_good {t : Tb} (ht : t.good) (b : Int) : (t.raise b).good := ⟨⟨ht.ok.c0, ht.ok.c1, ht.ok.w⟩, ht.clean⟩
theorem decl_good {t : Tb} (ht : t.good) : t.decl.good := ⟨⟨ht.ok.c0, ht.ok.c1, ht.ok.w⟩, ht.clean⟩
theorem none_good {t : Tb} (ht : t.good) : t.none.good := ⟨⟨ht.ok.c0, ht.ok.c1, fun _ => by show (0 : Nat) < 2 ^ 64; simp⟩, fun c _ => by unfold bit Tb.none; simp⟩
theorem does_good (a : Ac) {t : Tb} (ht : t.good) : (a.does t).good := by
  unfold Ac.does
  split
  · exact clear_good ht _ _
  split
  · exact none_good ht
  split
  · exact raise_good ht _
  split
  · exact decl_good ht
  split
  · exact resize_good ht _
  · exact put_good ht _ _
theorem has_nat (t : Tb) (ht : t.ok) (c : Nat) : t.has c = (decide (c < t.n) && bit t.w c) := by
  have := ht.c0
  unfold Tb.has Tb.there Tb.n
  rw [Int.toNat_natCast]
  congr 1
  rw [Bool.eq_iff_iff]; simp <;> omega
theorem resize_has (t : Tb) (ht : t.good) (n : Int) (c : Nat) (hc : c < clampN n) : (t.resize n).has c = if c < t.n then t.has c else firstB c := by
  rw [has_nat _ (resize_good ht n).ok, resize_n, resize_bit t ht, has_nat t ht.ok]
  simp only [hc, decide_true, Bool.true_and]
  split
  · rename_i h; simp [h]
  · rfl
theorem resize_self (t : Tb) (ht : t.good) : t.resize t.cols = t := by
  have h0 := ht.ok.c0
  have h1 := ht.ok.c1
  have hn : clampN t.cols = t.n := by unfold clampN Tb.n; omega
  have hw : resizeW t t.n = t.w := by
    unfold resizeW fromN
    rw [Nat.sub_self, show (t.n - max 8 ((t.n + 7) / 8 * 8) + 7) / 8 = 0 by omega]
    rfl
  have hc : ((t.n : Nat) : Int) = t.cols := by unfold Tb.n; omega
  unfold Tb.resize
  rw [hn, hw, hc]
/-- What TabsSizes asks of a column. -/
theorem sizes_col (t : Tb) (ht : t.good) (n m : Int) (c : Nat) (hc : c < clampN m) :
    let a := t.resize n
    let b := a.resize m
    (c < min t.n (min (clampN n) (clampN m)) → b.has c = t.has c) ∧ (clampN n ≤ c ∨ t.n ≤ c → ¬ c < min t.n (min (clampN n) (clampN m)) → b.has c = firstB c) := by
  intro a b
  have ha := resize_good ht n
  have hb : b.has c = if c < clampN n then a.has c else firstB c := by
    have := resize_has a ha m c hc
    rw [resize_n] at this
    exact this
  refine ⟨fun h => ?_, fun h1 h2 => ?_⟩
  · rw [hb, if_pos (by omega), resize_has t ht n c (by omega), if_pos (by omega)]
  · rw [hb]
    split
    · rw [resize_has t ht n c (by assumption), if_neg (by omega)]
    · rfl
def actsV (l : List Ac) : List (List V) := l.map Ac.cs
theorem actsV_len (l : List Ac) : (actsV l).length = l.length := by simp [actsV]
theorem actsV_get {l : List Ac} {i : Nat} {a : Ac} (h : l[i]? = some a) : (actsV l)[i]? = some a.cs := by simp [actsV, h]
def tB (t : Tb) : Option Blk := some (.cells 29 t.cs)
theorem rem600 (x : Int) (h : 0 ≤ x ∧ x < 65536) : IntKind.i64.wrap (x.tmod 600) = x % 600 := by
  rw [Int.tmod_eq_emod_of_nonneg h.1, wr64] <;> omega
end Go.Cx
namespace Go.Proofs.YtifdekgmoekegaaDoor
open Go.ChangeShapes Go.WideShapes Go.ChangeAt Go.RowKit Go.Cx
set_option maxRecDepth 100000
namespace rowKit
theorem own : ownKnob Tryd.prog.godebug = none := by kernel_rfl
theorem laidOut : laidOutB Tryd.prog = true := by kernel_rfl
theorem gTab : Tryd.prog.globalNamed "math/bits.deBruijn64tab" = some 0 := by kernel_rfl
theorem gTabType : (Tryd.prog.globals[0]?).map (·.type) = some 63 := by kernel_rfl
theorem cells63 : Tryd.prog.cellsOf 63 = 64 := by kernel_rfl
theorem cells5 : Tryd.prog.cellsOf 5 = 1 := by kernel_rfl
def tabL : List Int := [0, 1, 56, 2, 57, 49, 28, 3, 61, 58, 42, 50, 38, 29, 17, 4, 62, 47, 59, 36, 45, 43, 51, 22, 53, 39, 33, 30, 24, 18, 12, 5, 63, 55, 48, 27, 60, 41, 37, 16, 46, 35, 44, 21, 52, 32, 23, 11, 54, 26, 40, 15, 34, 20, 31, 10, 25, 14, 19, 9, 13, 8, 7, 6]
def laidL : List (String × DataW Unit) := [("math/bits.deBruijn64tab", Rows.laid_math_bits_deBruijn64tab)]
theorem table {W : World} (h : laidMet Tryd.prog laidL W) : Lib.TabIs Tryd.prog W "math/bits.deBruijn64tab" .u8 tabL :=
  Lib.tabIs_of_head (rest := []) gTab gTabType Tryd.underlying63 Tryd.underlying5 cells5 cells63 h
theorem globW {W : World} (h : laidMet Tryd.prog laidL W) : GlobW W := fun g cs hg => by
  match g, hg with
  | 0, hg =>
    have hcs : cs = tabL.map (V.int .u8) := by
      simp only [globTab, Option.some.injEq] at hg
      rw [← hg]; rfl
    have hlen : cs.length = 64 := by rw [hcs]; rfl
    refine .iptr _ _ _ _ (fun j => .int .u8 (tabL.getD j 0)) (fun j hj => ?_) (fun j hj => ?_)
    · rw [hlen] at hj
      rw [Nat.zero_add]
      exact phiW_cell ((table h).cell gTab j hj) rfl
    · have hj' : j < tabL.length := by rw [hlen] at hj; exact hj
      have : cs.getD j .undef = V.int .u8 (tabL.getD j 0) := by
        rw [hcs]
        simp [List.getD_eq_getElem?_getD, hj']
      rw [this]
      exact .int _ _ _
noncomputable def laidWorld (os : Os) : World :=
  { World.holding Tryd.prog os ⟨#[], #[], []⟩ with heap := (World.holding Tryd.prog os ⟨#[], #[], []⟩).heap.modify 0 fun
      | .cells _ t frozen => .cells (tabL.map fun z => Value.int .u8 z).toArray t frozen
      | o => o }
theorem wf_rng {k : IntKind} {n : Int} (h : (Lit.int k n).wf = true) : k.min ≤ n ∧ n ≤ k.max := by
  simpa [Lit.wf] using h
theorem i16s_of {v : V} (h : ShOk (.sl [.int .i16]) v) : ∃ xs : List Int, v = .psl 1 (xs.map fun c => [.int .i16 c]) .any ∧ xs.length ≤ maxLen ∧ ∀ x ∈ xs, -32768 ≤ x ∧ x < 32768 :=
  rows_of (f := fun c => [.int .i16 c]) (p := fun x => -32768 ≤ x ∧ x < 32768) (fun y hy hs => by
    match y, hy with
    | [a], _ =>
      have h0 := hs 0 (by simp)
      simp at h0
      match a, h0 with
      | _, .int _ n hn =>
        have a1 := wf_rng hn
        simp [IntKind.min, IntKind.max, IntKind.signed, IntKind.bits] at a1
        exact ⟨n, rfl, a1.1, by omega⟩) h
def csAct : List CS := [.int .u8, .bool, .sl [.int .i16], .int .i16]
theorem act_of {y : List V} (hy : y.length = 4) (hs : ∀ j, j < 4 → ShOk (csAct.getD j .bool) (y.getD j .undef)) : ∃ a : Ac, y = a.cs ∧ a.ok := by
  match y, hy with
  | [a, b, c, d], _ =>
    have h0 := hs 0 (by simp)
    have h1 := hs 1 (by simp)
    have h2 := hs 2 (by simp)
    have h3 := hs 3 (by simp)
    simp [csAct] at h0 h1 h2 h3
    obtain ⟨xs, rfl, hl, hx⟩ := i16s_of h2
    match a, b, d, h0, h1, h3 with
    | _, _, _, .int _ n hn, .bool q, .int _ m hm =>
      have a1 := wf_rng hn
      have a2 := wf_rng hm
      simp [IntKind.min, IntKind.max, IntKind.signed, IntKind.bits] at a1 a2
      exact ⟨⟨n, q, xs, m⟩, rfl, ⟨a1.1, by show n < 256; omega, a2.1, by show m < 32768; omega, hx, hl⟩⟩
theorem acts_of {v : V} (h : ShOk (.sl csAct) v) : ∃ xs : List Ac, v = .psl 4 (actsV xs) .any ∧ xs.length ≤ maxLen ∧ ∀ x ∈ xs, x.ok :=
  rows_of (es := csAct) (f := Ac.cs) (p := Ac.ok) (fun _ hy hs => act_of hy hs) h
end rowKit
end Go.Proofs.YtifdekgmoekegaaDoor
namespace Go.Cx
open Go.Proofs
set_option maxRecDepth 100000
set_option maxHeartbeats 10000000
/-- Two that look alike. -/
structure Bl (t u : Tb) : Prop where
  gt : t.good
  gu : u.good
  lab : t.lab = u.lab
  cols : t.cols = u.cols
  bt : t.base = 0
  bu : u.base = 0
  l01 : t.lab = 0 ∨ t.lab = 1
  low : t.lab = 0 → u = t
theorem Bl.refl {t : Tb} (h : t.good) (hb : t.base = 0) (hl : t.lab = 0 ∨ t.lab = 1) : Bl t t := ⟨h, h, rfl, rfl, hb, hb, hl, fun _ => rfl⟩
theorem jn01 (x y : Int) : jn2 x y = 0 ∨ jn2 x y = 1 := by unfold jn2; split <;> omega
theorem by01 (a : Ac) : a.by = 0 ∨ a.by = 1 := by unfold Ac.by; split <;> omega
theorem does_base (a : Ac) (t : Tb) : (a.does t).base = t.base := by
  unfold Ac.does
  repeat' split
  all_goals rfl
theorem does_l01 (a : Ac) (t : Tb) (hb : t.base = 0) (hl : t.lab = 0 ∨ t.lab = 1) : (a.does t).lab = 0 ∨ (a.does t).lab = 1 := by
  unfold Ac.does
  repeat' split
  all_goals first | exact jn01 _ _ | exact .inl hb | exact hl
theorem Bl.does {a : Ac} {t u : Tb} (h : Bl t u) (b : Ac) (h7 : a.what % 9 = 7 → u = t) (hb : b = a ∨ (a.high = true ∧ a.what % 9 < 5 ∧ b = ⟨a.what, a.high, (b.l), a.cols⟩)) : Bl (a.does t) (b.does u) := by
  have h1 := does_base a t
  have h2 := does_base b u
  have h3 := does_l01 a t h.bt h.l01
  have g1 := does_good a h.gt
  have g2 := does_good b h.gu
  by_cases hut : u = t ∧ b = a
  · obtain ⟨rfl, rfl⟩ := hut
    exact Bl.refl g1 (h1.trans h.bt) h3
  have hw : b.what = a.what := by
    rcases hb with rfl | ⟨_, _, e⟩
    · rfl
    · rw [e]
  have hby : b.by = a.by := by
    rcases hb with rfl | ⟨_, _, e⟩
    · rfl
    · rw [e]; rfl
  have hco : b.cols = a.cols := by
    rcases hb with rfl | ⟨_, _, e⟩
    · rfl
    · rw [e]
  have key : (a.does t).lab = (b.does u).lab ∧ (a.does t).cols = (b.does u).cols ∧ ((a.does t).lab = 0 → b.does u = a.does t) := by
    have h12 : t.lab = 0 → a.by = 1 ∨ b = a := fun _ => by
      rcases hb with e | ⟨e, _, _⟩
      · exact .inr e
      · exact .inl (by unfold Ac.by; rw [if_pos e])
    have jz : ∀ x y : Int, jn2 x y = 0 → (x = 0 ∨ x = 1) → (y = 0 ∨ y = 1) → x = 0 ∧ y = 0 := fun x y hj hx hy => by unfold jn2 at hj; split at hj <;> omega
    unfold Ac.does
    rw [hw, hby, hco]
    split
    · refine ⟨by simp only [Tb.clear, h.lab], by simp only [Tb.clear, h.cols], fun h0 => ?_⟩
      obtain ⟨k1, k2⟩ := jz _ _ h0 h.l01 (by01 a)
      rcases h12 k1 with e | e
      · omega
      · exact absurd ⟨h.low k1, e⟩ hut
    split
    · refine ⟨by simp only [Tb.none, h.bt, h.bu], by simp only [Tb.none, h.cols], fun _ => by simp only [Tb.none, h.bt, h.bu, h.cols]⟩
    split
    · refine ⟨by simp only [Tb.raise, h.lab], by simp only [Tb.raise, h.cols], fun h0 => ?_⟩
      obtain ⟨k1, k2⟩ := jz _ _ h0 h.l01 (by01 a)
      rw [h.low k1]
    split
    · rename_i e7
      rw [h7 e7]
      exact ⟨rfl, rfl, fun _ => rfl⟩
    split
    · refine ⟨h.lab, rfl, fun h0 => ?_⟩
      rw [h.low h0]
    · refine ⟨by simp only [Tb.put, h.lab], by simp only [Tb.put, h.cols], fun h0 => ?_⟩
      obtain ⟨k1, k2⟩ := jz _ _ h0 h.l01 (by01 a)
      rcases h12 k1 with e | e
      · omega
      · exact absurd ⟨h.low k1, e⟩ hut
  exact ⟨g1, g2, key.1, key.2.1, h1.trans h.bt, h2.trans h.bu, h3, key.2.2⟩
theorem Bl.norm {t u : Tb} (h : Bl t u) : ∃ u2, tB u2 = tB u ∧ Bl t u2 ∧ (tB u2 = tB t → u2 = t) := by
  by_cases hs : tB u = tB t
  · exact ⟨t, hs.symm, Bl.refl h.gt h.bt h.l01, fun _ => rfl⟩
  · exact ⟨u, rfl, h, fun e => absurd e hs⟩
theorem same_v (t u : Tb) (h : (!((t.w 0 : Int) == u.w 0 && ((t.w 1 : Int) == u.w 1 && ((t.w 2 : Int) == u.w 2 && ((t.w 3 : Int) == u.w 3 && ((t.w 4 : Int) == u.w 4 && ((t.w 5 : Int) == u.w 5 && ((t.w 6 : Int) == u.w 6 && ((t.w 7 : Int) == u.w 7 && true))))))) && (t.cols == u.cols && (t.lab == u.lab && (t.base == u.base && true))))) = false) : tB u = tB t := by
  simp only [Bool.not_eq_false', Bool.and_eq_true, beq_iff_eq, and_true] at h
  obtain ⟨⟨h0, h1, h2, h3, h4, h5, h6, h7⟩, h8, h9, h10⟩ := h
  unfold tB Tb.cs
  rw [h0, h1, h2, h3, h4, h5, h6, h7, h8, h9, h10]
def envB (n : Int) (l : List Ac) (o : List Int) (i : Int) : List V := .int .u16 n :: .psl 4 (actsV l) .any :: .psl 1 (lV o) .any :: .undef :: .undef :: .undef :: .bool false :: .ptr 0 0 :: .ptr 1 0 :: .int .i64 i :: List.replicate 77 .undef
theorem blind_sem (n : Int) (hn : 0 ≤ n ∧ n < 65536) (l : List Ac) (hl : ∀ a ∈ l, a.ok) (o : List Int) (ho : ∀ x ∈ o, -32768 ≤ x ∧ x < 32768) (hol : o.length ≤ maxLen) :
    Sem Tryd.prog 4 [.int .u16 n, .psl 4 (actsV l) .any, .psl 1 (lV o) .any] [] fun v _ => v = .bool true := by
  have hal := actsV_len l
  have n1 := rem600 n hn
  refine Sem.of_body tysOk md0 Tryd.func4 rfl rfl ?_
  refine works.sem _ ?_
  refine BCase.no rfl ?_
  refine (new_fn _ 0).sem _ ?_
  refine (new_fn _ 0).sem _ ?_
  refine LoopP.inv (md := md0) (fun k env h => ∃ (i : Nat) (t u : Tb), k = l.length - i ∧ i ≤ l.length ∧ i ≤ 40 ∧ Bl t u ∧ (tB u = tB t → u = t) ∧ env = envB n l o i ∧ h = [tB t, tB u]) l.length ⟨envB n l o 0, _, .same (by repeat (first | exact trivial | refine ⟨.inl rfl, ?_⟩ | refine ⟨.inr rfl, ?_⟩)) rfl, 0, _, _, rfl, Nat.zero_le _, Nat.zero_le _, Bl.refl (resize_good (zero_good 0) _) rfl (.inl rfl), fun _ => rfl, rfl, rfl⟩ ?_
  rintro k _ _ ⟨i, t, u, rfl, hil, hi40, hB, hnrm, rfl, rfl⟩
  have ht := hB.gt
  refine ⟨fun h => ?_, fun h => ?_⟩
  · have hi' : i < l.length := by have := of_decide_eq_true h; omega
    repeat (first | refine BCase.yes rfl ?_ | refine BCase.no rfl ?_)
    refine ⟨fun h40 => ?_, fun h40 => ?_⟩
    · have h40' : i < 40 := by have := of_decide_eq_true h40; omega
      obtain ⟨a, ha⟩ : ∃ a, l[i]? = some a := ⟨_, List.getElem?_eq_getElem hi'⟩
      have hao := hl a (List.mem_of_getElem? ha)
      have em : a.what.tmod 9 = a.what % 9 := Int.tmod_eq_emod_of_nonneg hao.w0
      refine DrawP.intro tysOk mixed false ?_
      refine ⟨a.cs, ⟨by omega, actsV_get ha⟩, ?_⟩
      refine ⟨a.cs, ⟨by omega, actsV_get ha⟩, ?_⟩
      refine ⟨by kernel_rfl, ?_⟩
      refine ⟨fun h7 => ?_, fun h7 => ?_⟩
      · repeat (first | refine BCase.yes rfl ?_ | refine BCase.no rfl ?_)
        refine ⟨fun hne => ?_, fun hne => ?_⟩
        · rfl
        · have h7' : a.what % 9 = 7 → u = t := fun _ => hnrm (same_v t u hne)
          repeat (first | refine BCase.yes rfl ?_ | refine BCase.no rfl ?_)
          refine ⟨fun hh => ?_, fun hh => ?_⟩
          · repeat (first | refine BCase.yes rfl ?_ | refine BCase.no rfl ?_)
            refine ⟨fun h5 => ?_, fun h5 => ?_⟩
            · repeat (first | refine BCase.yes rfl ?_ | refine BCase.no rfl ?_)
              refine (does_fn a hao t ht.ok).sem _ ?_
              refine (does_fn ⟨a.what, a.high, o, a.cols⟩ ⟨hao.w0, hao.w1, hao.c0, hao.c1, ho, hol⟩ u hB.gu.ok).sem _ ?_
              have hB' := hB.does ⟨a.what, a.high, o, a.cols⟩ h7' (.inr ⟨hh, by rw [em] at h5; exact of_decide_eq_true h5, rfl⟩)
              generalize a.does t = t1 at hB' ⊢
              generalize Ac.does ⟨a.what, a.high, o, a.cols⟩ u = u1 at hB' ⊢
              refine DrawP.intro tysOk mixed false ?_
              refine ⟨_, (label_fn t1).callT _ _, ?_⟩
              refine ⟨_, (label_fn u1).callT _ _, ?_⟩
              refine BCase.no (by rw [hB'.lab]; simp) ?_
              repeat (first | refine BCase.yes rfl ?_ | refine BCase.no rfl ?_)
              refine ⟨_, (cols_fn t1).callT _ _, ?_⟩
              repeat (first | refine BCase.yes rfl ?_ | refine BCase.no rfl ?_)
              refine ⟨_, (cols_fn u1).callT _ _, ?_⟩
              repeat (first | refine BCase.yes rfl ?_ | refine BCase.no rfl ?_)
              refine BCase.no (by rw [hB'.cols]; simp) ?_
              repeat (first | refine BCase.yes rfl ?_ | refine BCase.no rfl ?_)
              refine ⟨_, (label_fn t1).callT _ _, ?_⟩
              repeat (first | refine BCase.yes rfl ?_ | refine BCase.no rfl ?_)
              refine ⟨fun hl0 => ?_, fun hl0 => ?_⟩
              · repeat (first | refine BCase.yes rfl ?_ | refine BCase.no rfl ?_)
                have hlz : t1.lab = 0 := by simpa using hl0
                have hut := hB'.low hlz
                subst hut
                refine ⟨by kernel_rfl, ?_⟩
                refine BCase.no (by simp) ?_
                obtain ⟨u2, hu2, hB2, hn2⟩ := hB'.norm
                refine ⟨l.length - (i + 1), envB n l o (i + 1 : Nat), [tB u1, tB u1], by omega, .cut ?_ (by show 2 ≤ 2; omega) rfl rfl, i + 1, u1, u2, rfl, hi', h40', hB2, hn2, rfl, by rw [hu2]⟩
                refine ⟨.inl rfl, .inl rfl, .inl rfl, .inl rfl, .inl rfl, .inl rfl, .inl rfl, .inl rfl, .inl rfl, .inl ?_, ?_⟩
                · exact congrArg (V.int .i64) (wrs i 1 (by omega))
                · repeat (first | exact trivial | refine ⟨.inl rfl, ?_⟩ | refine ⟨.inr rfl, ?_⟩)
              · repeat (first | refine BCase.yes rfl ?_ | refine BCase.no rfl ?_)
                refine ⟨by kernel_rfl, ?_⟩
                repeat (first | refine BCase.yes rfl ?_ | refine BCase.no rfl ?_)
                obtain ⟨u2, hu2, hB2, hn2⟩ := hB'.norm
                refine ⟨l.length - (i + 1), envB n l o (i + 1 : Nat), [tB t1, tB u1], by omega, .cut ?_ (by show 2 ≤ 2; omega) rfl rfl, i + 1, t1, u2, rfl, hi', h40', hB2, hn2, rfl, by rw [hu2]⟩
                refine ⟨.inl rfl, .inl rfl, .inl rfl, .inl rfl, .inl rfl, .inl rfl, .inl rfl, .inl rfl, .inl rfl, .inl ?_, ?_⟩
                · exact congrArg (V.int .i64) (wrs i 1 (by omega))
                · repeat (first | exact trivial | refine ⟨.inl rfl, ?_⟩ | refine ⟨.inr rfl, ?_⟩)
            · repeat (first | refine BCase.yes rfl ?_ | refine BCase.no rfl ?_)
              refine (does_fn a hao t ht.ok).sem _ ?_
              refine (does_fn a hao u hB.gu.ok).sem _ ?_
              have hB' := hB.does a h7' (.inl rfl)
              generalize a.does t = t1 at hB' ⊢
              generalize Ac.does a u = u1 at hB' ⊢
              refine DrawP.intro tysOk mixed false ?_
              refine ⟨_, (label_fn t1).callT _ _, ?_⟩
              refine ⟨_, (label_fn u1).callT _ _, ?_⟩
              refine BCase.no (by rw [hB'.lab]; simp) ?_
              repeat (first | refine BCase.yes rfl ?_ | refine BCase.no rfl ?_)
              refine ⟨_, (cols_fn t1).callT _ _, ?_⟩
              repeat (first | refine BCase.yes rfl ?_ | refine BCase.no rfl ?_)
              refine ⟨_, (cols_fn u1).callT _ _, ?_⟩
              repeat (first | refine BCase.yes rfl ?_ | refine BCase.no rfl ?_)
              refine BCase.no (by rw [hB'.cols]; simp) ?_
              repeat (first | refine BCase.yes rfl ?_ | refine BCase.no rfl ?_)
              refine ⟨_, (label_fn t1).callT _ _, ?_⟩
              repeat (first | refine BCase.yes rfl ?_ | refine BCase.no rfl ?_)
              refine ⟨fun hl0 => ?_, fun hl0 => ?_⟩
              · repeat (first | refine BCase.yes rfl ?_ | refine BCase.no rfl ?_)
                have hlz : t1.lab = 0 := by simpa using hl0
                have hut := hB'.low hlz
                subst hut
                refine ⟨by kernel_rfl, ?_⟩
                refine BCase.no (by simp) ?_
                obtain ⟨u2, hu2, hB2, hn2⟩ := hB'.norm
                refine ⟨l.length - (i + 1), envB n l o (i + 1 : Nat), [tB u1, tB u1], by omega, .cut ?_ (by show 2 ≤ 2; omega) rfl rfl, i + 1, u1, u2, rfl, hi', h40', hB2, hn2, rfl, by rw [hu2]⟩
                refine ⟨.inl rfl, .inl rfl, .inl rfl, .inl rfl, .inl rfl, .inl rfl, .inl rfl, .inl rfl, .inl rfl, .inl ?_, ?_⟩
                · exact congrArg (V.int .i64) (wrs i 1 (by omega))
                · repeat (first | exact trivial | refine ⟨.inl rfl, ?_⟩ | refine ⟨.inr rfl, ?_⟩)
              · repeat (first | refine BCase.yes rfl ?_ | refine BCase.no rfl ?_)
                refine ⟨by kernel_rfl, ?_⟩
                repeat (first | refine BCase.yes rfl ?_ | refine BCase.no rfl ?_)
                obtain ⟨u2, hu2, hB2, hn2⟩ := hB'.norm
                refine ⟨l.length - (i + 1), envB n l o (i + 1 : Nat), [tB t1, tB u1], by omega, .cut ?_ (by show 2 ≤ 2; omega) rfl rfl, i + 1, t1, u2, rfl, hi', h40', hB2, hn2, rfl, by rw [hu2]⟩
                refine ⟨.inl rfl, .inl rfl, .inl rfl, .inl rfl, .inl rfl, .inl rfl, .inl rfl, .inl rfl, .inl rfl, .inl ?_, ?_⟩
                · exact congrArg (V.int .i64) (wrs i 1 (by omega))
                · repeat (first | exact trivial | refine ⟨.inl rfl, ?_⟩ | refine ⟨.inr rfl, ?_⟩)
          · repeat (first | refine BCase.yes rfl ?_ | refine BCase.no rfl ?_)
            refine (does_fn a hao t ht.ok).sem _ ?_
            refine (does_fn a hao u hB.gu.ok).sem _ ?_
            have hB' := hB.does a h7' (.inl rfl)
            generalize a.does t = t1 at hB' ⊢
            generalize Ac.does a u = u1 at hB' ⊢
            refine DrawP.intro tysOk mixed false ?_
            refine ⟨_, (label_fn t1).callT _ _, ?_⟩
            refine ⟨_, (label_fn u1).callT _ _, ?_⟩
            refine BCase.no (by rw [hB'.lab]; simp) ?_
            repeat (first | refine BCase.yes rfl ?_ | refine BCase.no rfl ?_)
            refine ⟨_, (cols_fn t1).callT _ _, ?_⟩
            repeat (first | refine BCase.yes rfl ?_ | refine BCase.no rfl ?_)
            refine ⟨_, (cols_fn u1).callT _ _, ?_⟩
            repeat (first | refine BCase.yes rfl ?_ | refine BCase.no rfl ?_)
            refine BCase.no (by rw [hB'.cols]; simp) ?_
            repeat (first | refine BCase.yes rfl ?_ | refine BCase.no rfl ?_)
            refine ⟨_, (label_fn t1).callT _ _, ?_⟩
            repeat (first | refine BCase.yes rfl ?_ | refine BCase.no rfl ?_)
            refine ⟨fun hl0 => ?_, fun hl0 => ?_⟩
            · repeat (first | refine BCase.yes rfl ?_ | refine BCase.no rfl ?_)
              have hlz : t1.lab = 0 := by simpa using hl0
              have hut := hB'.low hlz
              subst hut
              refine ⟨by kernel_rfl, ?_⟩
              refine BCase.no (by simp) ?_
              obtain ⟨u2, hu2, hB2, hn2⟩ := hB'.norm
              refine ⟨l.length - (i + 1), envB n l o (i + 1 : Nat), [tB u1, tB u1], by omega, .cut ?_ (by show 2 ≤ 2; omega) rfl rfl, i + 1, u1, u2, rfl, hi', h40', hB2, hn2, rfl, by rw [hu2]⟩
              refine ⟨.inl rfl, .inl rfl, .inl rfl, .inl rfl, .inl rfl, .inl rfl, .inl rfl, .inl rfl, .inl rfl, .inl ?_, ?_⟩
              · exact congrArg (V.int .i64) (wrs i 1 (by omega))
              · repeat (first | exact trivial | refine ⟨.inl rfl, ?_⟩ | refine ⟨.inr rfl, ?_⟩)
            · repeat (first | refine BCase.yes rfl ?_ | refine BCase.no rfl ?_)
              refine ⟨by kernel_rfl, ?_⟩
              repeat (first | refine BCase.yes rfl ?_ | refine BCase.no rfl ?_)
              obtain ⟨u2, hu2, hB2, hn2⟩ := hB'.norm
              refine ⟨l.length - (i + 1), envB n l o (i + 1 : Nat), [tB t1, tB u1], by omega, .cut ?_ (by show 2 ≤ 2; omega) rfl rfl, i + 1, t1, u2, rfl, hi', h40', hB2, hn2, rfl, by rw [hu2]⟩
              refine ⟨.inl rfl, .inl rfl, .inl rfl, .inl rfl, .inl rfl, .inl rfl, .inl rfl, .inl rfl, .inl rfl, .inl ?_, ?_⟩
              · exact congrArg (V.int .i64) (wrs i 1 (by omega))
              · repeat (first | exact trivial | refine ⟨.inl rfl, ?_⟩ | refine ⟨.inr rfl, ?_⟩)
      · have h7' : a.what % 9 = 7 → u = t := fun e => by rw [em, e] at h7; cases h7
        repeat (first | refine BCase.yes rfl ?_ | refine BCase.no rfl ?_)
        refine ⟨fun hh => ?_, fun hh => ?_⟩
        · repeat (first | refine BCase.yes rfl ?_ | refine BCase.no rfl ?_)
          refine ⟨fun h5 => ?_, fun h5 => ?_⟩
          · repeat (first | refine BCase.yes rfl ?_ | refine BCase.no rfl ?_)
            refine (does_fn a hao t ht.ok).sem _ ?_
            refine (does_fn ⟨a.what, a.high, o, a.cols⟩ ⟨hao.w0, hao.w1, hao.c0, hao.c1, ho, hol⟩ u hB.gu.ok).sem _ ?_
            have hB' := hB.does ⟨a.what, a.high, o, a.cols⟩ h7' (.inr ⟨hh, by rw [em] at h5; exact of_decide_eq_true h5, rfl⟩)
            generalize a.does t = t1 at hB' ⊢
            generalize Ac.does ⟨a.what, a.high, o, a.cols⟩ u = u1 at hB' ⊢
            refine DrawP.intro tysOk mixed false ?_
            refine ⟨_, (label_fn t1).callT _ _, ?_⟩
            refine ⟨_, (label_fn u1).callT _ _, ?_⟩
            refine BCase.no (by rw [hB'.lab]; simp) ?_
            repeat (first | refine BCase.yes rfl ?_ | refine BCase.no rfl ?_)
            refine ⟨_, (cols_fn t1).callT _ _, ?_⟩
            repeat (first | refine BCase.yes rfl ?_ | refine BCase.no rfl ?_)
            refine ⟨_, (cols_fn u1).callT _ _, ?_⟩
            repeat (first | refine BCase.yes rfl ?_ | refine BCase.no rfl ?_)
            refine BCase.no (by rw [hB'.cols]; simp) ?_
            repeat (first | refine BCase.yes rfl ?_ | refine BCase.no rfl ?_)
            refine ⟨_, (label_fn t1).callT _ _, ?_⟩
            repeat (first | refine BCase.yes rfl ?_ | refine BCase.no rfl ?_)
            refine ⟨fun hl0 => ?_, fun hl0 => ?_⟩
            · repeat (first | refine BCase.yes rfl ?_ | refine BCase.no rfl ?_)
              have hlz : t1.lab = 0 := by simpa using hl0
              have hut := hB'.low hlz
              subst hut
              refine ⟨by kernel_rfl, ?_⟩
              refine BCase.no (by simp) ?_
              obtain ⟨u2, hu2, hB2, hn2⟩ := hB'.norm
              refine ⟨l.length - (i + 1), envB n l o (i + 1 : Nat), [tB u1, tB u1], by omega, .cut ?_ (by show 2 ≤ 2; omega) rfl rfl, i + 1, u1, u2, rfl, hi', h40', hB2, hn2, rfl, by rw [hu2]⟩
              refine ⟨.inl rfl, .inl rfl, .inl rfl, .inl rfl, .inl rfl, .inl rfl, .inl rfl, .inl rfl, .inl rfl, .inl ?_, ?_⟩
              · exact congrArg (V.int .i64) (wrs i 1 (by omega))
              · repeat (first | exact trivial | refine ⟨.inl rfl, ?_⟩ | refine ⟨.inr rfl, ?_⟩)
            · repeat (first | refine BCase.yes rfl ?_ | refine BCase.no rfl ?_)
              refine ⟨by kernel_rfl, ?_⟩
              repeat (first | refine BCase.yes rfl ?_ | refine BCase.no rfl ?_)
              obtain ⟨u2, hu2, hB2, hn2⟩ := hB'.norm
              refine ⟨l.length - (i + 1), envB n l o (i + 1 : Nat), [tB t1, tB u1], by omega, .cut ?_ (by show 2 ≤ 2; omega) rfl rfl, i + 1, t1, u2, rfl, hi', h40', hB2, hn2, rfl, by rw [hu2]⟩
              refine ⟨.inl rfl, .inl rfl, .inl rfl, .inl rfl, .inl rfl, .inl rfl, .inl rfl, .inl rfl, .inl rfl, .inl ?_, ?_⟩
              · exact congrArg (V.int .i64) (wrs i 1 (by omega))
              · repeat (first | exact trivial | refine ⟨.inl rfl, ?_⟩ | refine ⟨.inr rfl, ?_⟩)
          · repeat (first | refine BCase.yes rfl ?_ | refine BCase.no rfl ?_)
            refine (does_fn a hao t ht.ok).sem _ ?_
            refine (does_fn a hao u hB.gu.ok).sem _ ?_
            have hB' := hB.does a h7' (.inl rfl)
            generalize a.does t = t1 at hB' ⊢
            generalize Ac.does a u = u1 at hB' ⊢
            refine DrawP.intro tysOk mixed false ?_
            refine ⟨_, (label_fn t1).callT _ _, ?_⟩
            refine ⟨_, (label_fn u1).callT _ _, ?_⟩
            refine BCase.no (by rw [hB'.lab]; simp) ?_
            repeat (first | refine BCase.yes rfl ?_ | refine BCase.no rfl ?_)
            refine ⟨_, (cols_fn t1).callT _ _, ?_⟩
            repeat (first | refine BCase.yes rfl ?_ | refine BCase.no rfl ?_)
            refine ⟨_, (cols_fn u1).callT _ _, ?_⟩
            repeat (first | refine BCase.yes rfl ?_ | refine BCase.no rfl ?_)
            refine BCase.no (by rw [hB'.cols]; simp) ?_
            repeat (first | refine BCase.yes rfl ?_ | refine BCase.no rfl ?_)
            refine ⟨_, (label_fn t1).callT _ _, ?_⟩
            repeat (first | refine BCase.yes rfl ?_ | refine BCase.no rfl ?_)
            refine ⟨fun hl0 => ?_, fun hl0 => ?_⟩
            · repeat (first | refine BCase.yes rfl ?_ | refine BCase.no rfl ?_)
              have hlz : t1.lab = 0 := by simpa using hl0
              have hut := hB'.low hlz
              subst hut
              refine ⟨by kernel_rfl, ?_⟩
              refine BCase.no (by simp) ?_
              obtain ⟨u2, hu2, hB2, hn2⟩ := hB'.norm
              refine ⟨l.length - (i + 1), envB n l o (i + 1 : Nat), [tB u1, tB u1], by omega, .cut ?_ (by show 2 ≤ 2; omega) rfl rfl, i + 1, u1, u2, rfl, hi', h40', hB2, hn2, rfl, by rw [hu2]⟩
              refine ⟨.inl rfl, .inl rfl, .inl rfl, .inl rfl, .inl rfl, .inl rfl, .inl rfl, .inl rfl, .inl rfl, .inl ?_, ?_⟩
              · exact congrArg (V.int .i64) (wrs i 1 (by omega))
              · repeat (first | exact trivial | refine ⟨.inl rfl, ?_⟩ | refine ⟨.inr rfl, ?_⟩)
            · repeat (first | refine BCase.yes rfl ?_ | refine BCase.no rfl ?_)
              refine ⟨by kernel_rfl, ?_⟩
              repeat (first | refine BCase.yes rfl ?_ | refine BCase.no rfl ?_)
              obtain ⟨u2, hu2, hB2, hn2⟩ := hB'.norm
              refine ⟨l.length - (i + 1), envB n l o (i + 1 : Nat), [tB t1, tB u1], by omega, .cut ?_ (by show 2 ≤ 2; omega) rfl rfl, i + 1, t1, u2, rfl, hi', h40', hB2, hn2, rfl, by rw [hu2]⟩
              refine ⟨.inl rfl, .inl rfl, .inl rfl, .inl rfl, .inl rfl, .inl rfl, .inl rfl, .inl rfl, .inl rfl, .inl ?_, ?_⟩
              · exact congrArg (V.int .i64) (wrs i 1 (by omega))
              · repeat (first | exact trivial | refine ⟨.inl rfl, ?_⟩ | refine ⟨.inr rfl, ?_⟩)
        · repeat (first | refine BCase.yes rfl ?_ | refine BCase.no rfl ?_)
          refine (does_fn a hao t ht.ok).sem _ ?_
          refine (does_fn a hao u hB.gu.ok).sem _ ?_
          have hB' := hB.does a h7' (.inl rfl)
          generalize a.does t = t1 at hB' ⊢
          generalize Ac.does a u = u1 at hB' ⊢
          refine DrawP.intro tysOk mixed false ?_
          refine ⟨_, (label_fn t1).callT _ _, ?_⟩
          refine ⟨_, (label_fn u1).callT _ _, ?_⟩
          refine BCase.no (by rw [hB'.lab]; simp) ?_
          repeat (first | refine BCase.yes rfl ?_ | refine BCase.no rfl ?_)
          refine ⟨_, (cols_fn t1).callT _ _, ?_⟩
          repeat (first | refine BCase.yes rfl ?_ | refine BCase.no rfl ?_)
          refine ⟨_, (cols_fn u1).callT _ _, ?_⟩
          repeat (first | refine BCase.yes rfl ?_ | refine BCase.no rfl ?_)
          refine BCase.no (by rw [hB'.cols]; simp) ?_
          repeat (first | refine BCase.yes rfl ?_ | refine BCase.no rfl ?_)
          refine ⟨_, (label_fn t1).callT _ _, ?_⟩
          repeat (first | refine BCase.yes rfl ?_ | refine BCase.no rfl ?_)
          refine ⟨fun hl0 => ?_, fun hl0 => ?_⟩
          · repeat (first | refine BCase.yes rfl ?_ | refine BCase.no rfl ?_)
            have hlz : t1.lab = 0 := by simpa using hl0
            have hut := hB'.low hlz
            subst hut
            refine ⟨by kernel_rfl, ?_⟩
            refine BCase.no (by simp) ?_
            obtain ⟨u2, hu2, hB2, hn2⟩ := hB'.norm
            refine ⟨l.length - (i + 1), envB n l o (i + 1 : Nat), [tB u1, tB u1], by omega, .cut ?_ (by show 2 ≤ 2; omega) rfl rfl, i + 1, u1, u2, rfl, hi', h40', hB2, hn2, rfl, by rw [hu2]⟩
            refine ⟨.inl rfl, .inl rfl, .inl rfl, .inl rfl, .inl rfl, .inl rfl, .inl rfl, .inl rfl, .inl rfl, .inl ?_, ?_⟩
            · exact congrArg (V.int .i64) (wrs i 1 (by omega))
            · repeat (first | exact trivial | refine ⟨.inl rfl, ?_⟩ | refine ⟨.inr rfl, ?_⟩)
          · repeat (first | refine BCase.yes rfl ?_ | refine BCase.no rfl ?_)
            refine ⟨by kernel_rfl, ?_⟩
            repeat (first | refine BCase.yes rfl ?_ | refine BCase.no rfl ?_)
            obtain ⟨u2, hu2, hB2, hn2⟩ := hB'.norm
            refine ⟨l.length - (i + 1), envB n l o (i + 1 : Nat), [tB t1, tB u1], by omega, .cut ?_ (by show 2 ≤ 2; omega) rfl rfl, i + 1, t1, u2, rfl, hi', h40', hB2, hn2, rfl, by rw [hu2]⟩
            refine ⟨.inl rfl, .inl rfl, .inl rfl, .inl rfl, .inl rfl, .inl rfl, .inl rfl, .inl rfl, .inl rfl, .inl ?_, ?_⟩
            · exact congrArg (V.int .i64) (wrs i 1 (by omega))
            · repeat (first | exact trivial | refine ⟨.inl rfl, ?_⟩ | refine ⟨.inr rfl, ?_⟩)
    · rfl
  · repeat (first | refine BCase.yes rfl ?_ | refine BCase.no rfl ?_)
    rfl
end Go.Cx
