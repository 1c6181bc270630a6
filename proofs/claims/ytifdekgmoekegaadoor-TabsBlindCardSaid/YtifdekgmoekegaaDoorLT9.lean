/- What functions of this seat compute, each for every argument of the shapes that are named; no condition beside the stated ones. -/
import Derived.Test.YtifdekgmoekegaaDoorLT8
namespace Go.Cx
open Go.Proofs
set_option maxRecDepth 100000
set_option maxHeartbeats 1000000
theorem Sem.res {P : Program} {g : FuncId} {args : List V} {h : Heap} {K : V → Heap → Prop} (k : Sem P g args h fun v h' => ∃ u, forgT1 v u ∧ K u h') : Sem P g args h K :=
  ⟨fun φ μ B w cargs hB r ha => (k.run φ μ B w cargs hB r ha).mono fun _ _ ⟨_, h', φ', μ', cv, e1, ⟨u, hf, hK⟩, hv, rest⟩ => ⟨u, h', φ', μ', cv, e1, hK, forgT1_ok hv hf, rest⟩⟩

structure Ac where
  what : Int
  high : Bool
  l : List Int
  cols : Int
def lV (l : List Int) : List (List V) := l.map fun c => [.int .i16 c]
theorem lV_len (l : List Int) : (lV l).length = l.length := by simp [lV]
theorem lV_get {l : List Int} {i : Nat} {c : Int} (h : l[i]? = some c) : (lV l)[i]? = some [.int .i16 c] := by simp [lV, h]
def Ac.cs (a : Ac) : List V := [.int .u8 a.what, .bool a.high, .psl 1 (lV a.l) .any, .int .i16 a.cols]
def Ac.v (a : Ac) : V := .agg a.cs
structure Ac.ok (a : Ac) : Prop where
  w0 : 0 ≤ a.what
  w1 : a.what < 256
  c0 : -32768 ≤ a.cols
  c1 : a.cols < 32768
  l : ∀ x ∈ a.l, -32768 ≤ x ∧ x < 32768
  len : a.l.length ≤ maxLen
def Ac.by (a : Ac) : Int := if a.high then 1 else 0
def Ac.cl (a : Ac) : List Int := a.l.take 10
theorem by_fn (a : Ac) : Fn Tryd.prog 19 [a.v] (.int .u8 a.by) := by
  refine Fn.of_body tysOk md0 Tryd.func19 rfl rfl rfl rfl ?_
  refine ⟨fun h => ?_, fun h => ?_⟩
  · show V.int .u8 1 = _
    unfold Ac.by; rw [if_pos h]
  · show V.int .u8 0 = _
    unfold Ac.by; rw [if_neg (by rw [h]; simp)]
def outC (i : Nat) (l : List Int) : V := match i with | 0 => .nils | _ => .psl 1 (colsV l) (.own 1)
def hpC (a : Ac) (i : Nat) : Heap := match i with | 0 => [some (.cells 34 a.cs)] | _ => [some (.cells 34 a.cs), some (.token 1 i)]
def envC (a : Ac) (i : Nat) : List V := a.v :: .ptr 0 0 :: .nils :: outC i (a.l.take i) :: .int .i64 (i : Nat) :: List.replicate 21 .undef
theorem acols_fn (a : Ac) (ha : a.ok) : Fn Tryd.prog 17 [a.v] (.psl 1 (colsV a.cl) .any) := by
  refine ⟨rfl, rfl, Sem.res (Sem.of_body tysOk md0 Tryd.func17 rfl rfl ?_)⟩
  refine LoopP.inv (md := md0) (fun k env h => ∃ (i : Nat), k = 10 - i ∧ i ≤ a.l.length ∧ i ≤ 10 ∧ env = envC a i ∧ h = hpC a i) 10 ⟨envC a 0, _, .same (by repeat (first | exact trivial | refine ⟨.inl rfl, ?_⟩ | refine ⟨.inr rfl, ?_⟩)) rfl, 0, rfl, Nat.zero_le _, Nat.zero_le _, rfl, rfl⟩ ?_
  rintro k _ _ ⟨i, rfl, hil, hi10, rfl, rfl⟩
  cases i with
  | zero =>
    refine ⟨fun h => ?_, fun h => ?_⟩
    · have hl : 0 < (lV a.l).length := by have := of_decide_eq_true h; omega
      rw [lV_len] at hl
      repeat (first | refine BCase.yes rfl ?_ | refine BCase.no rfl ?_)
      obtain ⟨x, hx⟩ : ∃ x, a.l[0]? = some x := ⟨_, List.getElem?_eq_getElem hl⟩
      refine ⟨[.int .i16 x], ⟨by omega, lV_get hx⟩, ?_⟩
      have hxr := ha.l x (List.mem_of_getElem? hx)
      have ht : a.l.take 1 = [x] := by
        cases hal : a.l with
        | nil => rw [hal] at hl; simp at hl
        | cons y ys => rw [hal] at hx; simp at hx; simp [hx]
      refine ⟨9, envC a 1, hpC a 1, by omega, .same ?_ rfl, 1, rfl, hl, by omega, rfl, rfl⟩
      refine ⟨.inl rfl, .inl rfl, .inl rfl, .inl ?_, .inl rfl, ?_⟩
      · show V.psl 1 (colsV (a.l.take 1)) (.own 1) = V.psl 1 [[.int .i64 (IntKind.i64.wrap x)]] (.own 1)
        rw [ht, wr64 (by omega) (by omega)]; rfl
      · repeat (first | exact trivial | refine ⟨.inl rfl, ?_⟩ | refine ⟨.inr rfl, ?_⟩)
    · repeat (first | refine BCase.yes rfl ?_ | refine BCase.no rfl ?_)
      have hl : ¬ 0 < (lV a.l).length := by have := of_decide_eq_false h; omega
      rw [lV_len] at hl
      refine ⟨_, .inr (.inr (.inr ⟨rfl, 1, rfl⟩)), ?_⟩
      have : a.l = [] := List.length_eq_zero_iff.1 (by omega)
      unfold Ac.cl; rw [this]; rfl
  | succ i =>
    have hlen : (colsV (a.l.take (i + 1))).length = i + 1 := by rw [colsV_len, List.length_take]; omega
    have done : (10 ≤ i + 1 ∨ a.l.length ≤ i + 1) → a.cl = a.l.take (i + 1) := fun h => by
      unfold Ac.cl
      rcases h with h | h
      · rw [show i + 1 = 10 by omega]
      · rw [List.take_of_length_le (by omega), List.take_of_length_le (by omega)]
    refine ⟨fun h => ?_, fun h => ?_⟩
    · have hl : i + 1 < (lV a.l).length := by have := of_decide_eq_true h; omega
      rw [lV_len] at hl
      repeat (first | refine BCase.yes rfl ?_ | refine BCase.no rfl ?_)
      refine ⟨fun h => ?_, fun h => ?_⟩
      · have h10 : i + 1 < 10 := by have := of_decide_eq_true h; omega
        obtain ⟨x, hx⟩ : ∃ x, a.l[i + 1]? = some x := ⟨_, List.getElem?_eq_getElem hl⟩
        refine ⟨[.int .i16 x], ⟨by omega, lV_get hx⟩, ?_⟩
        have hxr := ha.l x (List.mem_of_getElem? hx)
        have ht : colsV (a.l.take (i + 1)) ++ [[.int .i64 (IntKind.i64.wrap x)]] = colsV (a.l.take (i + 2)) := by
          have e : a.l.take (i + 2) = a.l.take (i + 1) ++ [x] := by rw [List.take_add_one (i := i + 1), hx]; rfl
          rw [wr64 (by omega) (by omega), e]; simp [colsV]
        refine gdP rfl ?_
        refine gdP ?_ ?_
        · show (Nat.beq 1 1 && Nat.beq 1 1 && Nat.beq (i + 1) (colsV (a.l.take (i + 1))).length && (Nat.blt 0 1 && Nat.blt 0 8 && Nat.ble (((colsV (a.l.take (i + 1))).length + 1) * (2 * 8)) 281474976710656)) = true
          rw [hlen]
          simp only [Bool.and_eq_true]
          exact ⟨⟨⟨rfl, rfl⟩, Nat.beq_refl _⟩, ⟨rfl, rfl⟩, Nat.ble_eq_true_of_le (by omega)⟩
        refine ⟨10 - (i + 2), envC a (i + 2), hpC a (i + 2), by omega, .same ?_ ?_, i + 2, rfl, hl, by omega, rfl, rfl⟩
        · refine ⟨.inl rfl, .inl rfl, .inl rfl, .inl ?_, .inl ?_, ?_⟩
          · exact congrArg (fun l => V.psl 1 l (.own 1)) ht.symm
          · exact congrArg (V.int .i64) (wrS (i + 1) 1 (by omega))
          · repeat (first | exact trivial | refine ⟨.inl rfl, ?_⟩ | refine ⟨.inr rfl, ?_⟩)
        · exact congrArg (fun n => [some (Blk.cells 34 a.cs), some (Blk.token 1 n)]) (show i + 2 = (colsV (a.l.take (i + 1))).length + 1 by rw [hlen])
      · have h10 : 10 ≤ i + 1 := by have := of_decide_eq_false h; omega
        refine ⟨_, .inr (.inr (.inl ⟨_, _, _, rfl, rfl⟩)), ?_⟩
        rw [done (.inl h10)]
    · repeat (first | refine BCase.yes rfl ?_ | refine BCase.no rfl ?_)
      have hl : ¬ i + 1 < (lV a.l).length := by have := of_decide_eq_false h; omega
      rw [lV_len] at hl
      refine ⟨_, .inr (.inr (.inl ⟨_, _, _, rfl, rfl⟩)), ?_⟩
      rw [done (.inr (by omega))]

def Ac.does (a : Ac) (t : Tb) : Tb :=
  if a.what % 9 = 3 ∨ a.what % 9 = 4 then t.clear a.by a.cl
  else if a.what % 9 = 5 then t.none
  else if a.what % 9 = 6 then t.raise a.by
  else if a.what % 9 = 7 then t.decl
  else if a.what % 9 = 8 then t.resize a.cols
  else t.put a.by a.cl
theorem does_fn (a : Ac) (ha : a.ok) (t : Tb) (ht : t.ok) : Fn Tryd.prog 10 [a.v, t.v] (a.does t).v := by
  have hcl : a.cl.length < 1000000 := by unfold Ac.cl; rw [List.length_take]; omega
  have w0 := ha.w0
  have w1 := ha.w1
  have c0 := ha.c0
  have c1 := ha.c1
  have em : a.what.tmod 9 = a.what % 9 := Int.tmod_eq_emod_of_nonneg w0
  have eq : ∀ k : Int, (a.what.tmod 9 == k) = true → a.what % 9 = k := fun k h => by rw [em] at h; simpa using h
  have ne : ∀ k : Int, (a.what.tmod 9 == k) = false → a.what % 9 ≠ k := fun k h => by rw [em] at h; simpa using h
  have fin : ∀ u : Tb, a.does t = u → u.v = (a.does t).v := fun u h => by rw [h]
  refine Fn.of_body tysOk md0 Tryd.func10 rfl rfl rfl rfl ?_
  refine ⟨fun h3 => ?_, fun h3 => ?_⟩
  · refine BCase.yes h3 ?_
    refine DrawP.intro tysOk mixed false ?_
    refine ⟨_, (by_fn a).callT _ _, ?_⟩
    refine ⟨_, (acols_fn a ha).callT _ _, ?_⟩
    refine ⟨_, (clear_fn t ht a.by a.cl hcl).callT _ _, ?_⟩
    refine ⟨by kernel_rfl, ?_⟩
    refine fin (t.clear a.by a.cl) ?_
    unfold Ac.does
    rw [if_pos (.inl (eq _ h3))]
  refine ⟨fun h4 => ?_, fun h4 => ?_⟩
  · refine DrawP.intro tysOk mixed false ?_
    refine ⟨_, (by_fn a).callT _ _, ?_⟩
    refine ⟨_, (acols_fn a ha).callT _ _, ?_⟩
    refine ⟨_, (clear_fn t ht a.by a.cl hcl).callT _ _, ?_⟩
    refine ⟨by kernel_rfl, ?_⟩
    refine fin (t.clear a.by a.cl) ?_
    unfold Ac.does
    rw [if_pos (.inr (eq _ h4))]
  have n34 : ¬ (a.what % 9 = 3 ∨ a.what % 9 = 4) := fun h => h.elim (ne _ h3) (ne _ h4)
  refine ⟨fun h5 => ?_, fun h5 => ?_⟩
  · refine (none_fn t).sem _ ?_
    refine fin t.none ?_
    unfold Ac.does
    rw [if_neg n34, if_pos (eq _ h5)]
  refine ⟨fun h6 => ?_, fun h6 => ?_⟩
  · refine DrawP.intro tysOk mixed false ?_
    refine ⟨_, (by_fn a).callT _ _, ?_⟩
    refine ⟨_, (raise_fn t a.by).callT _ _, ?_⟩
    refine ⟨by kernel_rfl, ?_⟩
    refine fin (t.raise a.by) ?_
    unfold Ac.does
    rw [if_neg n34, if_neg (ne _ h5), if_pos (eq _ h6)]
  refine ⟨fun h7 => ?_, fun h7 => ?_⟩
  · refine (decl_fn t).sem _ ?_
    refine fin t.decl ?_
    unfold Ac.does
    rw [if_neg n34, if_neg (ne _ h5), if_neg (ne _ h6), if_pos (eq _ h7)]
  refine ⟨fun h8 => ?_, fun h8 => ?_⟩
  · refine (resize_fn t ht _).sem _ ?_
    rw [wr64 (n := a.cols) (by omega) (by omega)]
    refine fin (t.resize a.cols) ?_
    unfold Ac.does
    rw [if_neg n34, if_neg (ne _ h5), if_neg (ne _ h6), if_neg (ne _ h7), if_pos (eq _ h8)]
  refine DrawP.intro tysOk mixed false ?_
  refine ⟨_, (by_fn a).callT _ _, ?_⟩
  refine ⟨_, (acols_fn a ha).callT _ _, ?_⟩
  refine ⟨_, (put_fn t ht a.by a.cl hcl).callT _ _, ?_⟩
  refine ⟨by kernel_rfl, ?_⟩
  refine fin (t.put a.by a.cl) ?_
  unfold Ac.does
  rw [if_neg n34, if_neg (ne _ h5), if_neg (ne _ h6), if_neg (ne _ h7), if_neg (ne _ h8)]
end Go.Cx
