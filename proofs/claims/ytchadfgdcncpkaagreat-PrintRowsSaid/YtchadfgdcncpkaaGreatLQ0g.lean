/- What functions of this seat compute, each for every argument of the shapes that are named; no condition beside the stated ones. -/
import Derived.Test.YtchadfgdcncpkaaGreatLP1g
import Derived.Test.YtchadfgdcncpkaaGreatCx17g
namespace Go.Cx
open Go.Proofs Go.Row
set_option maxRecDepth 100000
set_option maxHeartbeats 4000000
def md0 : Nat → Bool := fun _ => false
def md1 : Nat → Bool := fun _ => true
noncomputable abbrev TT := tysT.get none
theorem wri {n : Int} (h0 : -9223372036854775808 ≤ n) (h1 : n < 9223372036854775808) : IntKind.i64.wrap n = n := by
  rw [IntKind.wrap_i64]; omega
theorem wrs (i n : Nat) (h : i + n < 9223372036854775808) : IntKind.i64.wrap ((i : Int) + (n : Int)) = ((i + n : Nat) : Int) := by
  rw [wri (by omega) (by omega)]; omega
theorem forgE_undef : ∀ (l : List V) (n : Nat), l.length = n → forgE l (List.replicate n .undef)
  | [], _, rfl => trivial
  | x :: l, _, rfl => ⟨.inr rfl, forgE_undef l _ rfl⟩
theorem forgE_app : ∀ (a b c d : List V), forgE a c → forgE b d → forgE (a ++ b) (c ++ d)
  | [], _, [], _, _, h => h
  | _ :: a, b, _ :: c, d, h, k => ⟨h.1, forgE_app a b c d h.2 k⟩
  | [], _, _ :: _, _, h, _ => h.elim
  | _ :: _, _, [], _, h, _ => h.elim
/-! ### Cells and rows as values -/
def Cl.cs (c : Cl) : List V := [.int .i32 c.rune, .int .i32 c.m0, .int .i32 c.m1, .int .u8 c.kind, .int .u8 c.attr.fk, .int .u8 c.attr.fr, .int .u8 c.attr.fg, .int .u8 c.attr.fb, .int .u8 c.attr.bk, .int .u8 c.attr.br, .int .u8 c.attr.bg, .int .u8 c.attr.bb, .int .u16 c.attr.fl, .int .u8 c.lab]
def Cl.v (c : Cl) : V := .agg (Cl.cs c)
def rowC (r : List Cl) : List (List V) := r.map Cl.cs
def rowF (r : List Cl) : List V := (rowC r).flatten
def rowV (r : List Cl) : V := .psl 14 (rowC r) .any
theorem rowC_len (r : List Cl) : (rowC r).length = r.length := by simp [rowC]
theorem rowC_get {r : List Cl} {i : Nat} {c : Cl} (h : r[i]? = some c) : (rowC r)[i]? = some (Cl.cs c) := by simp [rowC, h]
theorem rowC_sz (r : List Cl) : ∀ x ∈ rowC r, x.length = 14 := by
  intro x hx
  obtain ⟨c, _, rfl⟩ := List.mem_map.1 hx
  rfl
theorem rowC_ok (r : List Cl) : ∀ x ∈ rowC r, x.all cellOk = true := by
  intro x hx
  obtain ⟨c, _, rfl⟩ := List.mem_map.1 hx
  rfl
theorem rowF_len (r : List Cl) : (rowF r).length = r.length * 14 := by unfold rowF; rw [flat_size _ (rowC_sz r), rowC_len]
theorem rowF_app (a b : List Cl) : rowF (a ++ b) = rowF a ++ rowF b := by simp [rowF, rowC]
theorem rowF_one (c : Cl) : rowF [c] = Cl.cs c := by simp [rowF, rowC]
theorem rowF_cons (c : Cl) (r : List Cl) : rowF (c :: r) = Cl.cs c ++ rowF r := by simp [rowF, rowC]
theorem rowF_take (r : List Cl) (i : Nat) : (rowF r).take (i * 14) = rowF (r.take i) := by
  induction r generalizing i with
  | nil => simp [rowF, rowC]
  | cons c r ih =>
    cases i with
    | zero => simp [rowF, rowC]
    | succ i => rw [rowF_cons, List.take_succ_cons, rowF_cons, show (i + 1) * 14 = 14 + i * 14 by omega, List.take_append, List.take_of_length_le (by show 14 ≤ _; omega), show 14 + i * 14 - (Cl.cs c).length = i * 14 by show 14 + i * 14 - 14 = _; omega, ih]
theorem rowF_drop (r : List Cl) (i : Nat) : (rowF r).drop (i * 14) = rowF (r.drop i) := by
  induction r generalizing i with
  | nil => simp [rowF, rowC]
  | cons c r ih =>
    cases i with
    | zero => simp
    | succ i => rw [rowF_cons, List.drop_succ_cons, show (i + 1) * 14 = 14 + i * 14 by omega, List.drop_append, List.drop_of_length_le (by show 14 ≤ _; omega), show 14 + i * 14 - (Cl.cs c).length = i * 14 by show 14 + i * 14 - 14 = _; omega, List.nil_append, ih]
/-- A cell is written. -/
theorem rowF_set {r : List Cl} {i : Nat} (hi : i < r.length) (c : Cl) : setL (rowF r) (i * 14) (Cl.cs c) = rowF (r.set i c) := by
  unfold setL
  rw [rowF_take, show i * 14 + (Cl.cs c).length = (i + 1) * 14 by show i * 14 + 14 = _; omega, rowF_drop, List.set_eq_take_append_cons_drop, if_pos hi, rowF_app, rowF_cons, List.append_assoc]
/-- A cell is read. -/
theorem rowF_get {r : List Cl} {i : Nat} {c : Cl} (h : r[i]? = some c) : ((rowF r).drop (i * 14)).take 14 = Cl.cs c := by
  obtain ⟨hi, hc⟩ := List.getElem?_eq_some_iff.1 h
  rw [rowF_drop, List.drop_eq_getElem_cons hi, hc, rowF_cons, List.take_append, List.take_of_length_le (by show 14 ≤ _; omega), show 14 - (Cl.cs c).length = 0 from rfl]
  simp
/-- A part of a cell is read. -/
theorem rowF_at {r : List Cl} {i : Nat} {c : Cl} (h : r[i]? = some c) {j : Nat} (hj : j < 14) : (rowF r).getD (i * 14 + j) .undef = (Cl.cs c).getD j .undef := by
  rw [← rowF_get h]
  simp only [List.getD_eq_getElem?_getD]
  rw [List.getElem?_take_of_lt hj, List.getElem?_drop]
def zeroC : Cl := ⟨0, 0, 0, 0, ⟨0, 0, 0, 0, 0, 0, 0, 0, 0⟩, 0⟩
theorem zeros_row (n : Nat) : zerosV (Cl.cs zeroC) n = rowF (List.replicate n zeroC) := by
  unfold zerosV rowF rowC
  rw [List.map_replicate]
/-- Reading a cell of a row's own block. -/
theorem ldCell {h : Heap} {i ver e sz k : Nat} {r : List Cl} {c : Cl} (hg : hget h i = some (.grow ver e sz (rowF r))) (hc : r[k]? = some c) {q : Nat} (hq : q = k * 14) : LdOk TT 46 h i q ver (Cl.v c) := by
  obtain ⟨hk, _⟩ := List.getElem?_eq_some_iff.1 hc
  have hl := rowF_len r
  refine ⟨e, sz, rowF r, hg, ?_⟩
  subst hq
  show some ((Nat.ble (k * 14 + 14) (rowF r).length), V.agg (((rowF r).drop (k * 14)).take 14)) = _
  rw [rowF_get hc, Nat.ble_eq_true_of_le (by omega)]
  rfl
end Go.Cx
namespace Go.Cx
open Go.Proofs Go.Row
set_option maxRecDepth 100000
set_option maxHeartbeats 4000000
def mx (n : Int) : Int := if n > 0 then n else 0
theorem mx_eq (n : Int) : mx n = n.toNat := by unfold mx; split <;> omega
theorem fill_set {α : Type} (n i : Nat) (b z : α) (hi : i < n) : (List.replicate i b ++ List.replicate (n - i) z).set i b = List.replicate (i + 1) b ++ List.replicate (n - (i + 1)) z := by
  rw [show n - i = (n - (i + 1)) + 1 by omega, List.replicate_succ, List.set_append_right _ _ (by simp), List.length_replicate, Nat.sub_self, List.set_cons_zero, List.replicate_succ', List.append_assoc]
  rfl
def newG1 (n : Int) : V := .gsl 1 14 0 (mx n).toNat (mx n).toNat true 0
def envNew (n : Int) (b : Cl) (i : Int) : List V := [.int .i64 n, Cl.v b, .undef, .ptr 0 0, .nils, newG1 n, .undef, .int .i64 n, .int .i64 (mx n), newG1 n, newG1 n, .int .i64 (mx n).toNat, .int .i64 i] ++ List.replicate 8 .undef
theorem rNewI (m : Int) (hn : m < 1000000) (b : Cl) : Fn Tryz.prog 124 [.int .i64 m, Cl.v b] (rowV (List.replicate m.toNat b)) := by
  obtain ⟨n, hn'⟩ : ∃ n, n = m.toNat := ⟨_, rfl⟩
  rw [← hn']
  refine ⟨rfl, rfl, Sem.freezeV (Sem.of_body tysOk md1 Tryz.func124 rfl rfl ?_)⟩
  have hm := mx_eq m
  rw [← hn'] at hm
  have hmn : (mx m).toNat = n := by rw [hm]; rfl
  refine gdP ?_ ?_
  · show (decide (0 ≤ mx m) && decide (mx m ≤ mx m) && decide (mx m ≤ 281474976710656) && decide (28 * mx m ≤ 281474976710656) && true) = true
    rw [hm]; simp; omega
  refine LoopP.inv (md := md1) (fun k env h => ∃ (i : Nat), k = n - i ∧ i ≤ n ∧ env = envNew m b i ∧ h = [some (.cells 46 (Cl.cs b)), some (.grow 0 46 14 (rowF (List.replicate i b ++ List.replicate (n - i) zeroC)))]) n ⟨envNew m b 0, _, .same (by repeat (first | exact trivial | refine ⟨.inl rfl, ?_⟩ | refine ⟨.inr rfl, ?_⟩)) ?_, 0, rfl, Nat.zero_le _, rfl, rfl⟩ ?_
  · show _ = [_, some (Blk.grow 0 _ _ (zerosV (Cl.cs zeroC) (mx m).toNat))]
    rw [zeros_row, hmn]; rfl
  rintro k _ _ ⟨i, rfl, hi, rfl, rfl⟩
  refine ⟨fun h => ?_, fun h => ?_⟩
  · have hi' : i < n := by have := of_decide_eq_true h; omega
    refine gdP (by rw [Bool.and_eq_true]; exact ⟨decide_eq_true (by omega), decide_eq_true (by omega)⟩) ?_
    have hl : (rowF (List.replicate i b ++ List.replicate (n - i) zeroC)).length = n * 14 := by rw [rowF_len, List.length_append, List.length_replicate, List.length_replicate, show i + (n - i) = n by omega]
    refine gdP ?_ ?_
    · show (true && (true && Nat.ble (0 + (i : Int).toNat * 14 + 14) (rowF (List.replicate i b ++ List.replicate (n - i) zeroC)).length)) = true
      rw [hl, Nat.ble_eq_true_of_le (by simp; omega)]; rfl
    refine ⟨n - (i + 1), envNew m b (i + 1 : Nat), _, by omega, .same ?_ ?_, i + 1, rfl, hi', rfl, rfl⟩
    · refine ⟨.inl rfl, .inl rfl, .inr rfl, .inl rfl, .inl rfl, .inl rfl, .inr rfl, .inl rfl, .inl rfl, .inl rfl, .inl rfl, .inl rfl, .inl ?_, ?_⟩
      · exact congrArg (V.int .i64) (wrs i 1 (by omega)).symm
      · repeat (first | exact trivial | refine ⟨.inl rfl, ?_⟩ | refine ⟨.inr rfl, ?_⟩)
    · show _ = [_, some (Blk.grow 0 _ _ (setL (rowF (List.replicate i b ++ List.replicate (n - i) zeroC)) (0 + (i : Int).toNat * 14) (Cl.cs b)))]
      rw [Nat.zero_add, Int.toNat_natCast, rowF_set (by simp; omega), fill_set _ _ _ _ hi']
      rfl
  · have hi' : i = n := by have := of_decide_eq_false h; omega
    subst hi'
    refine ⟨1, 14, rowC (List.replicate i b), rowC_sz _, rowC_ok _, .inr ⟨0, (mx m).toNat, 14, true, 46, ?_, ?_⟩, rfl⟩
    · rw [rowC_len, List.length_replicate]
      show V.gsl _ _ _ _ _ _ _ = _
      rw [hmn]
    · show some _ = some _
      rw [Nat.sub_self, List.replicate_zero, List.append_nil]; rfl
theorem rNew (n : Nat) (hn : n < 1000000) (b : Cl) : Fn Tryz.prog 124 [.int .i64 n, Cl.v b] (rowV (List.replicate n b)) := by
  have := rNewI n (by omega) b
  rw [Int.toNat_natCast] at this
  exact this
end Go.Cx
