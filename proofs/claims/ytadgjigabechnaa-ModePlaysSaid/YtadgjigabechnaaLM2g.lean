/- What functions of this seat compute, each for every argument of the shapes that are named; no condition beside the stated ones. -/
import Derived.Test.YtadgjigabechnaaLM1
import Derived.Test.YtadgjigabechnaaCx17g
import Derived.Laws.BitsLemmas
import Derived.Shelf.SlSortCmp.NoneTotal
import Derived.Shelf.Lay
import Derived.Ground.SlsfProg
import Derived.Lib.QuietBelow
namespace Go.Cx
open Go.Proofs
set_option maxRecDepth 100000
set_option maxHeartbeats 4000000
def md0 : Nat → Bool := fun _ => false
noncomputable abbrev TT := tysT.get none
structure Md where
  p : Bool
  n : Int
  deriving DecidableEq
def Md.v (x : Md) : V := .agg [.bool x.p, .int .i64 x.n]
def wV (m : Int) : V := .agg [.int .u16 m]
/-! ### The table of modes -/
def keyT : List (Bool × Int × Nat) := [(false, 4, 0), (false, 20, 1), (true, 1, 2), (true, 5, 3), (true, 6, 4), (true, 7, 5), (true, 25, 6), (true, 47, 7), (true, 1004, 8), (true, 1047, 7), (true, 1048, 9), (true, 1049, 7), (true, 2004, 10)]
def kV (e : Bool × Int × Nat) : V := .agg [.bool e.1, .int .i64 e.2.1]
def bV (e : Bool × Int × Nat) : V := .int .u16 ((2 ^ e.2.2 : Nat) : Int)
def bitsB : Blk := .mapc (keyT.map fun e => (kV e, bV e)) 13
def hit (x : Md) (e : Bool × Int × Nat) : Bool := x.p == e.1 && (x.n == e.2.1 && true)
theorem eq_key (x : Md) (e : Bool × Int × Nat) : eqV TT 12 24 x.v (kV e) = some (hit x e) := rfl
theorem hits (x : Md) : ∀ l : List (Bool × Int × Nat), hitsV TT 24 x.v (l.map fun e => (kV e, bV e)) = some ((l.filter (hit x)).map bV)
  | [] => rfl
  | e :: l => by
    simp only [List.map_cons, hitsV, eq_key, hits x l]
    cases h : hit x e <;> simp [h]
def kOf (x : Md) : Option Nat := ((keyT.filter (hit x)).head?).map fun e => e.2.2
theorem hit_one (x : Md) : keyT.filter (hit x) = [] ∨ ∃ e, keyT.filter (hit x) = [e] ∧ e ∈ keyT ∧ x = ⟨e.1, e.2.1⟩ := by
  by_cases h : ∃ e ∈ keyT, hit x e = true
  · obtain ⟨e, he, hx⟩ := h
    right
    unfold hit at hx
    simp only [Bool.and_eq_true, beq_iff_eq, and_true] at hx
    obtain ⟨p, n⟩ := x
    simp only at hx
    obtain ⟨rfl, rfl⟩ := hx
    refine ⟨e, ?_, he, rfl⟩
    simp only [keyT, List.mem_cons, List.not_mem_nil, or_false] at he
    rcases he with rfl | rfl | rfl | rfl | rfl | rfl | rfl | rfl | rfl | rfl | rfl | rfl | rfl <;> rfl
  · left
    rw [List.filter_eq_nil_iff]
    intro e he
    exact fun hx => h ⟨e, he, hx⟩
theorem kOf_cases (x : Md) : kOf x = none ∨ ∃ e ∈ keyT, x = ⟨e.1, e.2.1⟩ ∧ kOf x = some e.2.2 := by
  rcases hit_one x with h | ⟨e, h, he, hx⟩
  · left; unfold kOf; rw [h]; rfl
  · right; exact ⟨e, he, hx, by unfold kOf; rw [h]; rfl⟩
def bOf (x : Md) : BitVec 16 := match kOf x with | some k => BitVec.twoPow 16 k | none => 0
def known (x : Md) : Bool := (kOf x).isSome
theorem hitF_bits (x : Md) : hitF TT 24 x.v (some bitsB) = some ((kOf x).map fun _ => .int .u16 ((bOf x).toNat : Int)) := by
  unfold hitF bitsB
  simp only [hits]
  rcases hit_one x with h | ⟨e, h, he, hx⟩
  · have hk : kOf x = none := by unfold kOf; rw [h]; rfl
    rw [h, hk]; rfl
  · have hk : kOf x = some e.2.2 := by unfold kOf; rw [h]; rfl
    have hb : bOf x = BitVec.twoPow 16 e.2.2 := by unfold bOf; rw [hk]
    rw [h, hk, hb]
    simp only [keyT, List.mem_cons, List.not_mem_nil, or_false] at he
    rcases he with rfl | rfl | rfl | rfl | rfl | rfl | rfl | rfl | rfl | rfl | rfl | rfl | rfl <;> rfl
theorem look_ok {md : Bool} {ev : Operand → V} {hg : Nat → Option Blk} {nid id : Nat} {m k : Operand} (x : Md) (hm : ev m = .map id) (hk : ev k = x.v) (hb : hg id = some bitsB) : opF Try.prog TT md ev hg nid (.lookup 61 m k true) = some ⟨true, .tup [.int .u16 ((bOf x).toNat : Int), .bool (known x)], [], [id], 0⟩ := by
  have e61 : TT 61 = some ⟨.map 24 27, 1, 8, .nilm⟩ := rfl
  have e27 : TT 27 = some ⟨.int .u16, 1, 2, .int .u16 0⟩ := rfl
  have ek : keyOk TT 24 x.v = true := rfl
  simp only [opF, hm, hk, lookupF, e61, e27, hb, hitF_bits, ek]
  unfold known
  cases hx : kOf x with
  | none =>
    have : bOf x = 0 := by unfold bOf; rw [hx]
    rw [this]; rfl
  | some b => rfl
theorem look_ok1 {md : Bool} {ev : Operand → V} {hg : Nat → Option Blk} {nid id : Nat} {m k : Operand} (x : Md) (hm : ev m = .map id) (hk : ev k = x.v) (hb : hg id = some bitsB) : opF Try.prog TT md ev hg nid (.lookup 61 m k false) = some ⟨true, .int .u16 ((bOf x).toNat : Int), [], [id], 0⟩ := by
  have e61 : TT 61 = some ⟨.map 24 27, 1, 8, .nilm⟩ := rfl
  have e27 : TT 27 = some ⟨.int .u16, 1, 2, .int .u16 0⟩ := rfl
  have ek : keyOk TT 24 x.v = true := rfl
  simp only [opF, hm, hk, lookupF, e61, e27, hb, hitF_bits, ek]
  cases hx : kOf x with
  | none =>
    have : bOf x = 0 := by unfold bOf; rw [hx]
    rw [this]; rfl
  | some b => rfl
theorem bits_callT (h : Heap) : CallT (CallR Try.prog 32) [] h 2 ⟨.map 2, [(2, bitsB)], [2], 1, none⟩ := by
  have hn : ∀ i k, ¬ hget [none, none] i = some k := fun i k hk => by
    match i, hk with
    | 0, hk => cases hk
    | 1, hk => cases hk
    | i + 2, hk => simp [hget] at hk
  refine ⟨rfl, [none, none], rfl, fun i k hk => absurd hk (hn i k), fun p hp => ?_, ⟨rfl, fun i k hk => absurd hk (hn i k), rfl, fun i k hk => ?_, fun p hp => ?_⟩, Sem.fr (Sem.of_body tysOk md0 Try.func32 rfl rfl (DrawP.intro tysOk mixed false ⟨by kernel_rfl, rfl, rfl⟩))⟩
  · simp at hp; subst hp; simp
  · match i, hk with
    | 0, hk => cases hk
    | 1, hk => cases hk
    | 2, hk => cases hk; rfl
    | i + 3, hk => simp [hget, applyW] at hk
  · simp at hp
    subst hp
    exact .inl ⟨show 2 ≤ 2 by omega, show 2 < 3 by omega⟩
end Go.Cx
namespace Go.Cx
open Go.Proofs
set_option maxRecDepth 100000
set_option maxHeartbeats 4000000
/-! ### Words of sixteen bits -/
theorem wru16 {n : Int} (h0 : 0 ≤ n) (h1 : n < 65536) : IntKind.u16.wrap n = n := by
  have : IntKind.u16.wrap n = n % 65536 := by simp [IntKind.wrap, IntKind.bits, IntKind.signed]
  rw [this]; omega
theorem ofI16 (a : BitVec 16) : BitVec.ofInt IntKind.u16.bits (a.toNat : Int) = a := by
  show BitVec.ofInt 16 (a.toNat : Int) = a
  rw [BitVec.ofInt_natCast]
  simp
theorem toN16 (a : BitVec 16) : IntKind.u16.wrap (a.toNat : Int) = (a.toNat : Int) := by
  have := a.isLt
  exact wru16 (by omega) (by omega)
theorem and16 (a b : BitVec 16) : IntKind.u16.wrap ↑(BitVec.ofInt IntKind.u16.bits (a.toNat : Int) &&& BitVec.ofInt IntKind.u16.bits (b.toNat : Int)).toNat = ((a &&& b).toNat : Int) := by
  rw [ofI16, ofI16]; exact toN16 (a &&& b)
theorem or16 (a b : BitVec 16) : IntKind.u16.wrap ↑(BitVec.ofInt IntKind.u16.bits (a.toNat : Int) ||| BitVec.ofInt IntKind.u16.bits (b.toNat : Int)).toNat = ((a ||| b).toNat : Int) := by
  rw [ofI16, ofI16]; exact toN16 (a ||| b)
theorem andn16 (a b : BitVec 16) : IntKind.u16.wrap ↑(BitVec.ofInt IntKind.u16.bits (a.toNat : Int) &&& ~~~ BitVec.ofInt IntKind.u16.bits (b.toNat : Int)).toNat = ((a &&& ~~~ b).toNat : Int) := by
  rw [ofI16, ofI16]; exact toN16 (a &&& ~~~ b)
theorem nz16 (a : BitVec 16) : ((a.toNat : Int) != 0) = decide (a ≠ 0) := by
  by_cases h : a = 0
  · subst h; rfl
  · have : a.toNat ≠ 0 := fun e => h (BitVec.eq_of_toNat_eq (by rw [e]; rfl))
    have h2 : (a.toNat : Int) ≠ 0 := by omega
    rw [bne_iff_ne.2 h2, decide_eq_true h]
def stateOf (m : BitVec 16) (x : Md) : Int := if known x then (if m &&& bOf x = 0 then 2 else 1) else 0
theorem state_fn (m : BitVec 16) (x : Md) : Fn Try.prog 15 [wV m.toNat, x.v] (.int .i64 (stateOf m x)) := by
  refine Fn.of_body tysOk md0 Try.func15 rfl rfl rfl rfl ?_
  refine DrawP.intro tysOk mixed false ?_
  refine ⟨_, bits_callT _, ?_⟩
  refine ⟨_, _, look_ok x rfl rfl rfl, ?_⟩
  refine ⟨by kernel_rfl, ?_⟩
  unfold stateOf
  refine ⟨fun h => ?_, fun h => ?_⟩
  · rw [if_neg (by simpa using h)]; rfl
  · rw [if_pos (by simpa using h)]
    refine ⟨fun h2 => ?_, fun h2 => ?_⟩
    · rw [and16, nz16] at h2
      rw [if_neg (of_decide_eq_true h2)]; rfl
    · rw [and16, nz16] at h2
      rw [if_pos (by simpa using h2)]; rfl
def isOf (m : BitVec 16) (x : Md) : Bool := stateOf m x == 1
theorem is_fn (m : BitVec 16) (x : Md) : Fn Try.prog 14 [wV m.toNat, x.v] (.bool (isOf m x)) := by
  refine Fn.of_body tysOk md0 Try.func14 rfl rfl rfl rfl ?_
  refine (state_fn m x).sem _ ?_
  rfl
theorem bits_callT1 (h : Heap) : CallT (CallR Try.prog 32) [] h 1 ⟨.map 1, [(1, bitsB)], [1], 1, none⟩ := by
  have hn : ∀ i k, ¬ hget [none] i = some k := fun i k hk => by
    match i, hk with
    | 0, hk => cases hk
    | i + 1, hk => simp [hget] at hk
  refine ⟨rfl, [none], rfl, fun i k hk => absurd hk (hn i k), fun p hp => ?_, ⟨rfl, fun i k hk => absurd hk (hn i k), rfl, fun i k hk => ?_, fun p hp => ?_⟩, Sem.fr (Sem.of_body tysOk md0 Try.func32 rfl rfl (DrawP.intro tysOk mixed false ⟨by kernel_rfl, rfl, rfl⟩))⟩
  · simp at hp; subst hp; simp
  · match i, hk with
    | 0, hk => cases hk
    | 1, hk => cases hk; rfl
    | i + 2, hk => simp [hget, applyW] at hk
  · simp at hp
    subst hp
    exact .inl ⟨show 1 ≤ 1 by omega, show 1 < 2 by omega⟩
theorem known_fn (x : Md) : Fn Try.prog 18 [x.v] (.bool (known x)) := by
  refine Fn.of_body tysOk md0 Try.func18 rfl rfl rfl rfl ?_
  refine DrawP.intro tysOk mixed false ?_
  refine ⟨_, bits_callT1 _, ?_⟩
  refine ⟨_, _, look_ok x rfl rfl rfl, ?_⟩
  refine ⟨by kernel_rfl, ?_⟩
  rfl
def altOf (x : Md) : Bool := bOf x == 128#16
theorem eq16 (a b : BitVec 16) : ((a.toNat : Int) == (b.toNat : Int)) = (a == b) := by
  rw [Bool.eq_iff_iff, beq_iff_eq, beq_iff_eq]
  exact ⟨fun h => BitVec.eq_of_toNat_eq (by omega), fun h => by rw [h]⟩
theorem alt_fn (x : Md) : Fn Try.prog 26 [x.v] (.bool (altOf x)) := by
  refine Fn.of_body tysOk md0 Try.func26 rfl rfl rfl rfl ?_
  refine DrawP.intro tysOk mixed false ?_
  refine ⟨_, bits_callT1 _, ?_⟩
  refine ⟨_, _, look_ok1 x rfl rfl rfl, ?_⟩
  refine ⟨by kernel_rfl, ?_⟩
  exact congrArg V.bool (eq16 (bOf x) 128#16)
def softOf (m : BitVec 16) : BitVec 16 := (m &&& ~~~ 17#16) ||| 96#16
theorem soft_fn (m : BitVec 16) : Fn Try.prog 10 [wV m.toNat] (wV (softOf m).toNat) := by
  refine Fn.of_body tysOk md0 Try.func10 rfl rfl rfl rfl ?_
  show V.agg [.int .u16 _] = _
  have h1 := andn16 m 17#16
  have h2 := or16 (m &&& ~~~ 17#16) 96#16
  exact congrArg (fun z => V.agg [.int .u16 z]) ((congrArg (fun z => IntKind.u16.wrap ↑(BitVec.ofInt IntKind.u16.bits z ||| BitVec.ofInt IntKind.u16.bits 96).toNat) h1).trans h2)
theorem new_fn : Fn Try.prog 19 [] (wV 96) := by
  refine Fn.of_body tysOk md0 Try.func19 rfl rfl rfl rfl ?_
  rfl
theorem ansi_fn (n : Int) : Fn Try.prog 12 [.int .i64 n] (Md.v ⟨false, n⟩) := by
  refine Fn.of_body tysOk md0 Try.func12 rfl rfl rfl rfl ?_
  rfl
theorem priv_fn (n : Int) : Fn Try.prog 13 [.int .i64 n] (Md.v ⟨true, n⟩) := by
  refine Fn.of_body tysOk md0 Try.func13 rfl rfl rfl rfl ?_
  rfl
/-! ### Put -/
def putB (on : Bool) (m b : BitVec 16) : BitVec 16 := if on then (m &&& ~~~ b) ||| b else m &&& ~~~ b
def putS (on : Bool) (s : BitVec 16 × Nat) (x : Md) : BitVec 16 × Nat := if known x then (putB on s.1 (bOf x), s.2 + 1) else s
def putOf (on : Bool) (m : BitVec 16) (l : List Md) : BitVec 16 × Nat := l.foldl (putS on) (m, 0)
def mdC (x : Md) : List V := [.bool x.p, .int .i64 x.n]
def mdsV (l : List Md) : List (List V) := l.map mdC
theorem mdsV_len (l : List Md) : (mdsV l).length = l.length := by simp [mdsV]
theorem mdsV_get {l : List Md} {i : Nat} {x : Md} (h : l[i]? = some x) : (mdsV l)[i]? = some (mdC x) := by simp [mdsV, h]
def wB (m : Int) : Option Blk := some (.cells 29 [.int .u16 m])
def envP (m0 : Int) (on : Bool) (l : List Md) (k i : Int) : List V := wV m0 :: .bool on :: .psl 2 (mdsV l) .any :: .ptr 0 0 :: .undef :: .undef :: .ptr 1 0 :: .int .i64 0 :: .int .i64 k :: .map 2 :: .undef :: .undef :: .undef :: .undef :: .undef :: .psl 2 (mdsV l) .any :: .int .i64 (mdsV l).length :: .int .i64 i :: List.replicate 27 .undef
def hpP (m : BitVec 16) : Heap := [wB m.toNat, wB 0, some bitsB]
theorem wr64 {n : Int} (h0 : -9223372036854775808 ≤ n) (h1 : n < 9223372036854775808) : IntKind.i64.wrap n = n := by
  rw [IntKind.wrap_i64]; omega
theorem wrs (c d : Nat) (h : c + d < 2000000) : ((c + d : Nat) : Int) = IntKind.i64.wrap ((c : Int) + (d : Nat)) := by rw [wr64] <;> omega
theorem drop_fold {α β : Type} (f : β → α → β) (l : List α) (i : Nat) (c : α) (h : l[i]? = some c) (m : β) : (l.drop i).foldl f m = (l.drop (i + 1)).foldl f (f m c) := by
  obtain ⟨hl, he⟩ := List.getElem?_eq_some_iff.1 h
  rw [List.drop_eq_getElem_cons hl, he, List.foldl_cons]
theorem put_fn (on : Bool) (m : BitVec 16) (l : List Md) (hl : l.length < 1000000) : Fn Try.prog 17 [wV m.toNat, .bool on, .psl 2 (mdsV l) .any] (.tup [wV (putOf on m l).1.toNat, .int .i64 ((putOf on m l).2 : Nat)]) := by
  have hlen := mdsV_len l
  refine Fn.of_body tysOk md0 Try.func17 rfl rfl rfl rfl ?_
  refine Sem.of_body tysOk md0 Try.func32 rfl rfl (DrawP.intro tysOk mixed false ⟨by kernel_rfl, ?_⟩)
  refine LoopP.inv (md := md0) (fun k env h => ∃ (i q : Nat) (w : BitVec 16), k = l.length - i ∧ i ≤ l.length ∧ q ≤ i ∧ (l.drop i).foldl (putS on) (w, q) = putOf on m l ∧ env = envP m.toNat on l q i ∧ h = hpP w) l.length ⟨envP m.toNat on l 0 0, _, .same (by repeat (first | exact trivial | refine ⟨.inl rfl, ?_⟩ | refine ⟨.inr rfl, ?_⟩)) rfl, 0, 0, m, rfl, Nat.zero_le _, Nat.le_refl _, rfl, rfl, rfl⟩ ?_
  rintro k _ _ ⟨i, q, w, rfl, hi, hq, hf, rfl, rfl⟩
  refine ⟨fun h => ?_, fun h => ?_⟩
  · have hi' : i < l.length := by have := of_decide_eq_true h; omega
    obtain ⟨x, hx⟩ : ∃ x, l[i]? = some x := ⟨_, List.getElem?_eq_getElem hi'⟩
    rw [drop_fold _ _ _ _ hx] at hf
    refine ⟨mdC x, ⟨by omega, mdsV_get hx⟩, ?_⟩
    refine ⟨_, _, look_ok x rfl rfl rfl, ?_⟩
    refine ⟨fun hk => ?_, fun hk => ?_⟩
    · have hst : putS on (w, q) x = (w, q) := by unfold putS; rw [if_neg (by simpa using hk)]
      rw [hst] at hf
      refine ⟨l.length - (i + 1), envP m.toNat on l q (i + 1 : Nat), hpP w, by omega, .cut ?_ (by show 3 ≤ 3; omega) rfl rfl, i + 1, q, w, rfl, hi', by omega, hf, rfl, rfl⟩
      refine ⟨.inl rfl, .inl rfl, .inl rfl, .inl rfl, .inl rfl, .inl rfl, .inl rfl, .inl rfl, .inl rfl, .inl rfl, .inl rfl, .inr rfl, .inr rfl, .inr rfl, .inr rfl, .inl rfl, .inl rfl, .inl ?_, ?_⟩
      · exact congrArg (V.int .i64) (wrs i 1 (by omega))
      · repeat (first | exact trivial | refine ⟨.inl rfl, ?_⟩ | refine ⟨.inr rfl, ?_⟩)
    · have hk' : known x = true := by simpa using hk
      have hw1 := andn16 w (bOf x)
      have hw2 := or16 (w &&& ~~~ bOf x) (bOf x)
      refine ⟨fun ho => ?_, fun ho => ?_⟩
      · have hst : putS on (w, q) x = ((w &&& ~~~ bOf x) ||| bOf x, q + 1) := by unfold putS putB; rw [if_pos hk', if_pos ho]
        rw [hst] at hf
        refine ⟨l.length - (i + 1), envP m.toNat on l (q + 1 : Nat) (i + 1 : Nat), hpP ((w &&& ~~~ bOf x) ||| bOf x), by omega, .cut ?_ (by show 3 ≤ 3; omega) ?_ rfl, i + 1, q + 1, _, rfl, hi', by omega, hf, rfl, rfl⟩
        · refine ⟨.inl rfl, .inl rfl, .inl rfl, .inl rfl, .inl rfl, .inl rfl, .inl rfl, .inl rfl, .inl ?_, .inl rfl, .inl rfl, .inr rfl, .inr rfl, .inr rfl, .inr rfl, .inl rfl, .inl rfl, .inl ?_, ?_⟩
          · exact congrArg (V.int .i64) (wrs q 1 (by omega))
          · exact congrArg (V.int .i64) (wrs i 1 (by omega))
          · repeat (first | exact trivial | refine ⟨.inl rfl, ?_⟩ | refine ⟨.inr rfl, ?_⟩)
        · exact congrArg (fun z => [wB z, wB 0, some bitsB]) ((congrArg (fun z => IntKind.u16.wrap ↑(BitVec.ofInt IntKind.u16.bits z ||| BitVec.ofInt IntKind.u16.bits ((bOf x).toNat : Int)).toNat) hw1).trans hw2).symm
      · have hst : putS on (w, q) x = (w &&& ~~~ bOf x, q + 1) := by unfold putS putB; rw [if_pos hk', if_neg (by rw [ho]; simp)]
        rw [hst] at hf
        refine ⟨l.length - (i + 1), envP m.toNat on l (q + 1 : Nat) (i + 1 : Nat), hpP (w &&& ~~~ bOf x), by omega, .cut ?_ (by show 3 ≤ 3; omega) ?_ rfl, i + 1, q + 1, _, rfl, hi', by omega, hf, rfl, rfl⟩
        · refine ⟨.inl rfl, .inl rfl, .inl rfl, .inl rfl, .inl rfl, .inl rfl, .inl rfl, .inl rfl, .inl ?_, .inl rfl, .inl rfl, .inr rfl, .inr rfl, .inr rfl, .inr rfl, .inl rfl, .inl rfl, .inl ?_, ?_⟩
          · exact congrArg (V.int .i64) (wrs q 1 (by omega))
          · exact congrArg (V.int .i64) (wrs i 1 (by omega))
          · repeat (first | exact trivial | refine ⟨.inl rfl, ?_⟩ | refine ⟨.inr rfl, ?_⟩)
        · exact congrArg (fun z => [wB z, wB 0, some bitsB]) hw1.symm
  · have hi' : i = l.length := by have := of_decide_eq_false h; omega
    subst hi'
    rw [List.drop_length] at hf
    have hf' : (w, q) = putOf on m l := hf
    rw [← hf']
    rfl
end Go.Cx
namespace Go.Cx
open Go.Proofs
set_option maxRecDepth 100000
set_option maxHeartbeats 1000000
section
variable {P : Program} {T : Nat → Option TI}
theorem Rel.recast {φ : Phi} {μ : Mu} {B : Nat} {h : Heap} {w : World} (r : Rel φ μ B h w) {i b : Nat} {x : Option Nat} (hm : μ i = some (b, x)) {k : Blk} (hk : BlkR φ μ b x w k) : Rel φ μ B (h.set i (some k)) w := by
  refine ⟨r.glob, r.cell, r.size, r.inj, fun j c p hj => by rw [List.length_set]; exact r.dom j c p hj, fun j k' hk' => ?_⟩
  rw [hget_set] at hk'
  split at hk'
  · rename_i hij
    obtain ⟨rfl, _⟩ := hij
    simp only [Option.some.injEq] at hk'
    subst hk'
    exact ⟨b, x, hm, hk⟩
  · exact r.blk j k' hk'
/-- A map's entries in the order in which they stand. -/
theorem Wp.unmap {c : Code} {env : List V} {h : Heap} {Q : X → List V → Heap → Prop} {i clock : Nat} {es : List (V × V)} (hi : hget h i = some (.mapc es clock))
    (hk : ∀ fs : List (V × V × Nat), (fs.map fun x => (x.1, x.2.1)).Perm es → (fs.map fun x => x.2.2).Nodup → (∀ x ∈ fs, x.2.2 < clock) → Wp P T c env (h.set i (some (.map fs clock))) Q) : Wp P T c env h Q := by
  refine ⟨fun ρ φ μ B w a hro hB r he => ?_⟩
  obtain ⟨b, x, hm, h0, cc, fs, h1, h2, h3, h4, h5, h6⟩ := r.blk i _ hi
  exact (hk fs h4 h5 h6).run ρ φ μ B w a hro hB (r.recast hm ⟨h0, cc, h1, h2, h3⟩) he
theorem Wp.reg {id : Nat} {ops : Array Oper} {env : List V} {h : Heap} {Q : X → List V → Heap → Prop} (hT : TOk P T) (md : Nat → Bool) (hk : regP P T (md id) ops.toList ops.toList env h (Q .normal)) : Wp P T (.region id ops false) env h Q := by
  refine Wp.of hT (md := md) ?_
  show forceL ops.toList _
  rw [forceL_eq]
  exact hk
theorem regP_val {md : Bool} {all rest : List Oper} {o : Oper} {env : List V} {h : Heap} {K : List V → Heap → Prop} {d : Nat} (v v' : V) (hd : o.dst = some d) (hg : o.guard = none) (hop : ∀ K' : V → Heap → Prop, opY P T md (evE env) h K' o.op = K' v h) (hv : v = v') (hk : regP P T md all rest (env.set d v') h K) : regP P T md all (o :: rest) env h K := by
  rw [regP_cons]
  unfold stepP guardN
  rw [hd, hg]
  dsimp only
  rw [hop]
  simp only [V.force_eq, forceL_eq, forceH_eq]
  subst hv
  exact hk
theorem regP_next {md : Bool} {all rest : List Oper} {o : Oper} {env : List V} {h : Heap} {K : List V → Heap → Prop} {d i mid clock : Nat} {it : Operand} {seen : List Nat} {es : List (V × V × Nat)} (hd : o.dst = some d) (hg : o.guard = none) (ho : o.op = .next it false)
    (hx : evE env it = .ptr i 0) (hi : hget h i = some (.miter mid clock seen clock)) (hm : hget h mid = some (.map es clock)) (hb : ∀ e ∈ es, e.2.2 < clock)
    (hdone : (∀ e ∈ es, e.2.2 ∈ seen) → regP P T md all rest (env.set d (.tup [.bool false])) h K)
    (hnext : ∀ e ∈ es, e.2.2 ∉ seen → regP P T md all rest (env.set d (.tup [.bool true, e.1, e.2.1])) (h.set i (some (.miter mid clock (seen ++ [e.2.2]) clock))) K) : regP P T md all (o :: rest) env h K := by
  rw [regP_cons]
  unfold stepP guardN
  rw [hd, hg]
  dsimp only
  rw [ho]
  simp only [opY, V.force_eq, forceL_eq, forceH_eq, nextP, hx, hi, hm]
  have hc : (Nat.beq clock clock && Nat.beq clock clock && es.all fun e => Nat.blt e.2.2 clock) = true := by
    simp only [Bool.and_eq_true, Nat.beq_eq, List.all_eq_true]
    exact ⟨⟨trivial, trivial⟩, fun e he => by rw [Nat.blt_eq]; exact hb e he⟩
  refine gdP hc ?_
  have hf : ∀ e, e ∈ es.filter (fun e => !seen.contains e.2.2) ↔ e ∈ es ∧ e.2.2 ∉ seen := fun e => by
    rw [List.mem_filter]; simp
  split
  · rename_i hnil
    refine hdone fun e he => ?_
    by_cases hs : e.2.2 ∈ seen
    · exact hs
    · have := (hf e).2 ⟨he, hs⟩
      rw [hnil] at this; cases this
  · rename_i e0 l0 hl
    intro e he
    rw [← hl] at he
    obtain ⟨h1, h2⟩ := (hf e).1 he
    exact hnext e h1 h2
theorem findB_mem {es : List (V × V × Nat)} (hn : (es.map fun x => x.2.2).Nodup) {e : V × V × Nat} (he : e ∈ es) : findB e.2.2 es = some (e.1, e.2.1) := by
  induction es with
  | nil => cases he
  | cons x es ih =>
    rw [List.map_cons, List.nodup_cons] at hn
    unfold findB
    rcases List.mem_cons.1 he with rfl | h
    · have : Nat.beq e.2.2 e.2.2 = true := Nat.beq_refl _
      rw [this]; rfl
    · have hne : x.2.2 ≠ e.2.2 := fun e2 => hn.1 (e2 ▸ List.mem_map_of_mem (f := fun x : V × V × Nat => x.2.2) h)
      have : Nat.beq x.2.2 e.2.2 = false := by
        cases hb : Nat.beq x.2.2 e.2.2 with
        | false => rfl
        | true => exact absurd (Nat.eq_of_beq_eq_true hb) hne
      rw [this]
      exact ih hn.2 h
theorem regP_entry {md : Bool} {all rest : List Oper} {o : Oper} {env : List V} {h : Heap} {K : List V → Heap → Prop} {d i mid clock : Nat} {it : Operand} {seen : List Nat} {es : List (V × V × Nat)} {e : V × V × Nat} (hd : o.dst = some d) (hg : o.guard = none) (ho : o.op = .entry it)
    (hx : evE env it = .ptr i 0) (hi : hget h i = some (.miter mid clock (seen ++ [e.2.2]) clock)) (hm : hget h mid = some (.map es clock)) (hn : (es.map fun x => x.2.2).Nodup) (he : e ∈ es)
    (hk : regP P T md all rest (env.set d (.tup [e.1, e.2.1])) h K) : regP P T md all (o :: rest) env h K := by
  rw [regP_cons]
  unfold stepP guardN
  rw [hd, hg]
  dsimp only
  rw [ho]
  simp only [opY, opN, natL_eq, opF, entryF, V.force_eq, forceL_eq, forceH_eq, hx, hi, hm, List.getLast?_append, List.getLast?_singleton, Option.some_or, findB_mem hn he, Nat.beq_refl, cond_true, applyW, List.foldl_nil, List.replicate_zero, List.append_nil]
  exact hk
end
end Go.Cx
namespace Go.Proofs
open Go.Shelf
shelf_lay_g SlLaysF0.n6 Slsf 6 at Try 33 as Try.sortMode
end Go.Proofs
namespace Go.Cx
open Go.Proofs Go.RowKit Go.Sort
set_option maxRecDepth 100000
set_option maxHeartbeats 1000000
instance : Inhabited Md := ⟨⟨false, 0⟩⟩
/-! ### The comparison -/
def cmpI (a b : Int) : Int := if a < b then -1 else if b < a then 1 else 0
def rankI (x : Md) : Int := if x.p then 1 else 0
def cfM (x y : Md) : Int := if cmpI (rankI x) (rankI y) ≠ 0 then cmpI (rankI x) (rankI y) else cmpI x.n y.n
theorem isNaN_fn (a : Int) : Fn Try.prog 42 [.int .i64 a] (.bool false) := by
  refine Fn.of_body tysOk md0 Try.func42 rfl rfl rfl rfl ?_
  show V.bool (a != a) = _
  simp
theorem compare_fn (a b : Int) : Fn Try.prog 36 [.int .i64 a, .int .i64 b] (.int .i64 (cmpI a b)) := by
  refine Fn.of_body tysOk md0 Try.func36 rfl rfl rfl rfl ?_
  refine (isNaN_fn a).sem _ ?_
  refine (isNaN_fn b).sem _ ?_
  repeat (first | refine BCase.yes rfl ?_ | refine BCase.no rfl ?_)
  unfold cmpI
  refine ⟨fun h => ?_, fun h => ?_⟩
  · rw [if_pos (of_decide_eq_true h)]; rfl
  · rw [if_neg (of_decide_eq_false h)]
    refine ⟨fun h2 => ?_, fun h2 => ?_⟩
    · have : b < a := of_decide_eq_true h2
      rw [if_pos this]; rfl
    · have : ¬ b < a := of_decide_eq_false h2
      rw [if_neg this]; rfl
theorem rank_fn (x : Md) : Fn Try.prog 37 [x.v] (.int .i64 (rankI x)) := by
  refine Fn.of_body tysOk md0 Try.func37 rfl rfl rfl rfl ?_
  unfold rankI
  refine ⟨fun h => ?_, fun h => ?_⟩
  · rw [if_pos h]; rfl
  · rw [if_neg (by rw [h]; simp)]; rfl
theorem or_fn (a b : Int) : Fn Try.prog 35 [.psl 1 [[.int .i64 a], [.int .i64 b]] .exact] (.int .i64 (if a ≠ 0 then a else b)) := by
  refine Fn.of_body tysOk md0 Try.func35 rfl rfl rfl rfl ?_
  refine LoopP.unroll (md := md0) ?_
  refine BCase.yes rfl ?_
  refine ⟨_, ⟨by decide, rfl⟩, ?_⟩
  refine ⟨fun h => ?_, fun h => ?_⟩
  · rw [if_pos (by simpa using h)]; rfl
  · have ha : a = 0 := by simpa using h
    rw [if_neg (by simp [ha])]
    refine LoopP.unroll (md := md0) ?_
    refine BCase.yes rfl ?_
    refine ⟨_, ⟨by decide, rfl⟩, ?_⟩
    refine ⟨fun h => ?_, fun h => ?_⟩
    · rfl
    · have hb : b = 0 := by simpa using h
      refine LoopP.unroll (md := md0) ?_
      refine BCase.no rfl ?_
      rw [hb]; rfl
theorem less_fn (x y : Md) : Fn Try.prog 34 [x.v, y.v] (.int .i64 (cfM x y)) := by
  refine Fn.of_body tysOk md0 Try.func34 rfl rfl rfl rfl ?_
  refine DrawP.intro tysOk mixed false ?_
  refine ⟨_, (rank_fn x).callT _ _, ?_⟩
  refine ⟨_, (rank_fn y).callT _ _, ?_⟩
  refine ⟨_, (compare_fn _ _).callT _ _, ?_⟩
  refine ⟨_, (compare_fn _ _).callT _ _, ?_⟩
  refine ⟨_, (or_fn _ _).callT _ _, ?_⟩
  refine ⟨by kernel_rfl, ?_⟩
  rfl
def encM (x : Md) : List Value := [.bool x.p, .int .i64 x.n]
def phi0 : Phi := ⟨fun _ _ => none, fun _ => none, fun _ _ _ h => by cases h⟩
theorem rel0 (W : World) : Rel phi0 mu0 W.heap.size [] W :=
  ⟨fun g cs h => (by cases h), fun _ _ _ h => (by cases h), fun _ _ h => (by cases h), fun _ _ _ _ _ h => (by cases h), fun _ _ _ h => (by cases h), fun i k h => (by cases h)⟩
theorem md_rv (φ : Phi) (μ : Mu) (x : Md) : Rv φ μ x.v (.agg (encM x).toArray) := by
  refine .agg _ _ _ rfl fun j hj => ?_
  match j, hj with
  | 0, _ => exact .bool _ _
  | 1, _ => exact .int _ _ _
theorem cmp_lays (blk off size : Nat) (w : World) : CmpLays Try.prog 34 #[] encM 2 cfM blk off size w := by
  intro m os dk _ x y
  generalize sortWorldK encM 2 w blk off m dk os = W
  have hs := (less_fn x y).run.run phi0 mu0 W.heap.size W #[.agg (encM x).toArray, .agg (encM y).toArray] (Nat.le_refl _) (rel0 W) (rvl2 (md_rv _ _ x) (md_rv _ _ y))
  refine (hs.calls (by kernel_rfl)).mono ?_
  rintro e w' ⟨v, h', φ', μ', cv, rfl, rfl, hv, _, _, hf⟩
  cases hv
  refine ⟨rfl, ?_⟩
  obtain ⟨p, hp⟩ := regrown_of_below hf.below
  have hm := hf.mono
  refine ⟨p.d - W.drawn, p.os, ?_⟩
  have hd : w'.drawn = p.d := by rw [hp]; rfl
  rw [hp]
  have : redrawn W p.d = W.drewN (p.d - W.drawn) := by
    unfold redrawn World.drewN
    rw [show W.drawn + (p.d - W.drawn) = p.d by omega]
  rw [this]
end Go.Cx
namespace Go.Cx
open Go.Proofs Go.RowKit Go.Sort
set_option maxRecDepth 100000
set_option maxHeartbeats 1000000
theorem lt_eq (x y : Md) : ltOf cfM x y = decide (rankI x < rankI y ∨ (rankI x = rankI y ∧ x.n < y.n)) := by
  unfold ltOf cfM cmpI
  rw [Bool.eq_iff_iff]
  simp only [decide_eq_true_eq]
  repeat' split
  all_goals omega
theorem swoM : SWO (ltOf cfM) where
  irrefl x := by rw [lt_eq]; simp
  trans x y z h1 h2 := by rw [lt_eq] at *; simp only [decide_eq_true_eq] at *; omega
  ntrans x y z h1 h2 := by rw [lt_eq] at *; simp only [decide_eq_false_iff_not] at *; omega
theorem totM (x y : Md) (h1 : ltOf cfM x y = false) (h2 : ltOf cfM y x = false) : x = y := by
  rw [lt_eq] at h1 h2
  simp only [decide_eq_false_iff_not] at h1 h2
  obtain ⟨p, n⟩ := x
  obtain ⟨q, m⟩ := y
  unfold rankI at h1 h2
  simp only at h1 h2
  have hn : n = m := by
    cases p <;> cases q <;> simp at h1 h2 <;> omega
  subst hn
  cases p <;> cases q <;> first | rfl | (simp at h1 h2)
def sortM (l : List Md) : List Md := l.mergeSort fun x y => !(ltOf cfM y x)
theorem flat_get (l : List Md) : ∀ (i : Nat) (x : Md), l[i]? = some x → (mdsV l).flatten[2 * i]? = some (.bool x.p) ∧ (mdsV l).flatten[2 * i + 1]? = some (.int .i64 x.n) := by
  induction l with
  | nil => intro i x h; cases h
  | cons y l ih =>
    intro i x h
    cases i with
    | zero => simp at h; subst h; exact ⟨rfl, rfl⟩
    | succ i =>
      simp only [List.getElem?_cons_succ] at h
      obtain ⟨h1, h2⟩ := ih i x h
      have e : (mdsV (y :: l)).flatten = .bool y.p :: .int .i64 y.n :: (mdsV l).flatten := rfl
      rw [e, show 2 * (i + 1) = 2 * i + 1 + 1 by omega, show 2 * i + 1 + 1 + 1 = (2 * i + 1) + 1 + 1 by omega]
      simp only [List.getElem?_cons_succ]
      exact ⟨h1, h2⟩
theorem flat_len (l : List Md) : (mdsV l).flatten.length = 2 * l.length := by
  induction l with
  | nil => rfl
  | cons y l ih => rw [show (mdsV (y :: l)).flatten = .bool y.p :: .int .i64 y.n :: (mdsV l).flatten from rfl, List.length_cons, List.length_cons, ih, List.length_cons]; omega
theorem flatK_get (l : List Md) (t : Nat) (ht : t < 2 * l.length) : ∃ x : Md, l[t / 2]? = some x ∧ (flatK encM 2 l.toArray)[t]! = if t % 2 = 0 then Value.bool x.p else Value.int .i64 x.n := by
  obtain ⟨x, hx⟩ : ∃ x, l[t / 2]? = some x := ⟨_, List.getElem?_eq_getElem (by omega)⟩
  refine ⟨x, hx, ?_⟩
  rw [get_flatK encM 2 l.toArray t (by simp; omega)]
  have : l.toArray[t / 2]! = x := by simp [hx]
  rw [this]
  rcases Nat.mod_two_eq_zero_or_one t with h | h
  · rw [h]; rfl
  · rw [h]; rfl
/-- The cells are those of the modes. -/
theorem cells_at (l : List Md) {φ : Phi} {μ : Mu} {c : Array Value} (hr : ∀ j, j < (mdsV l).flatten.length → Rv φ μ ((mdsV l).flatten.getD j .undef) (c.getD j Go.undef)) (t : Nat) (ht : t < 2 * l.length) : c.getD t Go.undef = (flatK encM 2 l.toArray)[t]! := by
  obtain ⟨x, hx, he⟩ := flatK_get l t ht
  obtain ⟨f1, f2⟩ := flat_get l _ x hx
  have h := hr t (by rw [flat_len]; omega)
  rw [he]
  rcases Nat.mod_two_eq_zero_or_one t with h2 | h2
  · rw [if_pos h2]
    rw [List.getD_eq_getElem?_getD, show t = 2 * (t / 2) by omega, f1] at h
    rw [show 2 * (t / 2) = t by omega] at h
    generalize c.getD t Go.undef = z at h
    cases h; rfl
  · rw [if_neg (by omega)]
    rw [List.getD_eq_getElem?_getD, show t = 2 * (t / 2) + 1 by omega, f2] at h
    rw [show 2 * (t / 2) + 1 = t by omega] at h
    generalize c.getD t Go.undef = z at h
    cases h; rfl
theorem cells_rv (l : List Md) {φ : Phi} {μ : Mu} {c : Array Value} (hc : ∀ t, t < 2 * l.length → c.getD t Go.undef = (flatK encM 2 l.toArray)[t]!) (j : Nat) (hj : j < (mdsV l).flatten.length) : Rv φ μ ((mdsV l).flatten.getD j .undef) (c.getD j Go.undef) := by
  rw [flat_len] at hj
  obtain ⟨x, hx, he⟩ := flatK_get l j hj
  obtain ⟨f1, f2⟩ := flat_get l _ x hx
  rw [hc j hj, he, List.getD_eq_getElem?_getD]
  rcases Nat.mod_two_eq_zero_or_one j with h2 | h2
  · rw [if_pos h2, show j = 2 * (j / 2) by omega, f1]
    exact .bool _ _
  · rw [if_neg (by omega), show j = 2 * (j / 2) + 1 by omega, f2]
    exact .int _ _ _
theorem putRow_setRow {w : World} {b : Nat} {c : Array Value} {e : TypeId} {fr : Nat × Nat} (hw : w.heap[b]? = some (.cells c e fr)) (F : Array Value) : putRow id w b 0 F = w.setRow b (putCells id 0 F c) := by
  unfold putRow mapBlock World.setRow
  congr 1
  apply Array.ext_getElem?
  intro k
  simp only [Array.getElem?_modify]
  by_cases hk : b = k
  · subst hk
    simp only [if_true, hw, Option.map_some]
    rfl
  · simp [hk]
theorem sort_len (l : List Md) : (sortM l).length = l.length := by unfold sortM; exact List.length_mergeSort _
theorem sort_sem {id ver sz lo : Nat} {e : TypeId} {ex : Bool} {l : List Md} {h : Heap} {K : V → Heap → Prop} (hi : hget h id = some (.grow ver e sz (mdsV l).flatten)) (hl : l.length < 1000000) (hK : K (.tup []) (h.set id (some (.grow ver e sz (mdsV (sortM l)).flatten)))) :
    Go.Cx.Sem Try.prog 33 [.gsl id 2 0 l.length lo ex ver, .fn (.func 34) [] []] h K := by
  refine ⟨fun φ μ B w cargs hB r ha => ?_⟩
  obtain ⟨b, x, hm, h0, c, h1, h2, h3, h4, h5⟩ := r.blk id _ hi
  subst h0
  have ha0 := ha.2 0
  have ha1 := ha.2 1
  have hsz := ha.1
  simp only [List.length_cons, List.length_nil] at hsz
  have hc : cargs = #[cargs.getD 0 Go.undef, cargs.getD 1 Go.undef] := by
    apply Array.ext
    · simp; omega
    · intro i g1 g2
      simp at g2
      match i, g2 with
      | 0, _ => simp [g1]
      | 1, _ => simp [g1]
  simp only [List.getD_cons_zero, List.getD_cons_succ] at ha0 ha1
  generalize cargs.getD 0 Go.undef = c0 at ha0 hc
  generalize cargs.getD 1 Go.undef = c1 at ha1 hc
  subst hc
  cases ha1 with
  | fn _ _ _ _ cf cc l1 l2 _ _ =>
    have e1 : cf = #[] := Array.eq_empty_of_size_eq_zero l1.symm
    have e2 : cc = #[] := Array.eq_empty_of_size_eq_zero l2.symm
    subst e1 e2
    cases ha0 with
    | gsl _ _ _ _ _ _ _ _ b' m cap a g1 g2 g3 g4 g5 g6 =>
      rw [hm] at g1
      simp only [Option.some.injEq, Prod.mk.injEq] at g1
      obtain ⟨rfl, rfl⟩ := g1
      obtain ⟨rfl, _⟩ := g6 rfl
      rw [flat_len] at h2
      have hca := cells_at l h4
      have hbl : b < w.heap.size := (Array.getElem?_eq_some_iff.1 h1).1
      have hH : HoldsK encM 2 w b 0 l.toArray := by
        intro j hj
        simp only [size_flatK, List.size_toArray] at hj
        have hj2 : j < c.size := by omega
        refine ⟨?_, ?_⟩
        · unfold World.cell?
          simp only [h1, Nat.zero_add]
          have := hca j (by omega)
          rw [Array.getD_eq_getD_getElem?, Array.getElem?_eq_getElem hj2] at this
          simp only [Option.getD_some] at this
          simp [Array.getElem?_eq_getElem hj2, this]
        · unfold World.frozen?
          simp [h1]
      have hs := AnyQ.slices_SortFunc_total Try.sortMode 2 Try.isAgg24 Try.sizeOf24 encM (fun _ => rfl) (fun x v hv => by simp [encM] at hv; rcases hv with rfl | rfl <;> rfl) cfM swoM 34 #[] b 0 cap l.toArray w (fun args w => callFunc_enter (bodyB_ok (by kernel_rfl))) (cmp_lays b 0 _ w) hH hbl (by simp; omega) totM
      refine .inl ⟨callFunc_enter (bodyB_ok (by kernel_rfl)), ?_⟩
      rw [List.size_toArray] at hs
      change Calls Try.prog 33 _ _ _ at hs
      refine hs.mono ?_
      rintro en w' ⟨rfl, n, os, rfl⟩
      have hlen' : (sortM l).length = l.length := sort_len l
      -- the world behind it
      have hd : (l.toArray.toList.mergeSort fun x y => !ltOf cfM y x).toArray = (sortM l).toArray := by simp [sortM]
      rw [hd]
      obtain ⟨c', hc'⟩ : ∃ c', c' = putCells _root_.id 0 (flatK encM 2 (sortM l).toArray) c := ⟨_, rfl⟩
      have hrow : putRowK encM 2 (Go.Sort.ahead w n) b 0 (sortM l).toArray = (Go.Sort.ahead w n).setRow b c' := by
        rw [hc']
        exact putRow_setRow (w := Go.Sort.ahead w n) h1 _
      have hcs : c'.size = c.size := by rw [hc']; unfold putCells; simp
      have hcg : ∀ t, t < 2 * (sortM l).length → c'.getD t Go.undef = (flatK encM 2 (sortM l).toArray)[t]! := fun t ht => by
        rw [hlen'] at ht
        have h1' : t < c.size := by omega
        rw [hc']
        unfold putCells
        simp only [Array.getD_eq_getD_getElem?, Array.getElem?_mapIdx, Array.getElem?_eq_getElem h1', Option.map_some, Option.getD_some]
        rw [if_pos (by simp only [size_flatK, List.size_toArray, hlen']; omega)]
        rfl
      have r1 : Rel φ μ B h (Go.Sort.ahead w n) := r.drawn (w.drawn + n)
      obtain ⟨r2, x2⟩ := Rel.storeGrow (cs' := (mdsV (sortM l)).flatten) r1 hi hm (Nat.le_refl _) (c' := c') h1 hcs (by rw [flat_len, hcs, hlen']; omega) (fun j hj => cells_rv (sortM l) hcg j hj)
      have hmu : μ.add id b (some ver) = μ := by
        funext i
        unfold Mu.add
        split
        · rename_i e; subst e; exact hm.symm
        · rfl
      rw [hmu] at r2 x2
      unfold sortWorldK
      rw [hrow]
      have hgs : ∀ W : World, ∀ k, k < W.heap.size → (grow W os).heap[k]? = W.heap[k]? := fun W k hk => by
        simp [grow, Array.getElem?_append, hk]
      have r3 : Rel φ μ B _ (grow ((Go.Sort.ahead w n).setRow b c') os) := r2.grow (by simp [grow]) (fun k hk => hgs _ k hk)
      refine ⟨.tup [], _, φ, μ, .tuple #[], rfl, hK, .tup _ _ _ rfl (fun j hj => by cases hj), r3, Ext.refl _ _ _, ⟨rfl, rfl, rfl, ?_, fun k hk hn => ?_, fun k rr hk => ?_, ?_⟩⟩
      · show w.heap.size ≤ (((Go.Sort.ahead w n).setRow b c').heap ++ os).size
        rw [Array.size_append, setRow_size]
        exact Nat.le_add_right _ _
      · have hne : k ≠ b := fun e => hn id (some ver) (e ▸ hm)
        rw [hgs _ k (by rw [setRow_size]; exact hk), setRow_old (Go.Sort.ahead w n) b c' hne]
        rfl
      · have hne : k ≠ b := fun e => by subst e; rw [h1] at hk; cases hk
        refine ⟨rr, ?_⟩
        rw [hgs _ k (by rw [setRow_size]; exact (Array.getElem?_eq_some_iff.1 hk).1), setRow_old (Go.Sort.ahead w n) b c' hne]
        exact hk
      · show w.drawn ≤ w.drawn + n
        omega
end Go.Cx
namespace Go.Cx
open Go.Proofs Go.RowKit
set_option maxRecDepth 100000
set_option maxHeartbeats 1000000
def froz (φ : Phi) (b n : Nat) (c : Nat → Value) (h1 : ∀ t, t < n → (c t).oneCell' = true) : Phi := ⟨fun b' o => if b' = b ∧ o < n then some (c o) else φ.cell b' o, φ.size, fun b' o v h => by
  split at h
  · rename_i hb
    simp only [Option.some.injEq] at h
    subst h
    exact h1 o hb.2
  · exact φ.one b' o v h⟩
/-- A slice of own making, handed out for good. -/
theorem Sem.freeze {P : Program} {g : FuncId} {args : List V} {h : Heap} {K : V → Heap → Prop} {l : List Md}
    (k : Go.Cx.Sem P g args h fun v h' => ∃ (id ver lo sz : Nat) (ex : Bool) (e : TypeId), v = .gsl id 2 0 l.length lo ex ver ∧ hget h' id = some (.grow ver e sz (mdsV l).flatten) ∧ K (.psl 2 (mdsV l) .any) (h'.set id none)) : Go.Cx.Sem P g args h K := by
  refine ⟨fun φ0 μ0 B w0 cargs hB r0 ha => (k.run φ0 μ0 B w0 cargs hB r0 ha).mono ?_⟩
  rintro en w ⟨v, h', φ, μ, cv, rfl, ⟨id, ver, lo, sz, ex, e, rfl, hi, hK⟩, hv, r, hx, hf⟩
  obtain ⟨b, x, hm, h0, c, h1, h2, h3, h4, h5⟩ := r.blk id _ hi
  subst h0
  rw [flat_len] at h2
  have hca := cells_at l h4
  cases hv with
  | gsl _ _ _ _ _ _ _ _ b' m cap a g1 g2 g3 g4 g5 g6 =>
    rw [hm] at g1
    simp only [Option.some.injEq, Prod.mk.injEq] at g1
    obtain ⟨rfl, rfl⟩ := g1
    obtain ⟨rfl, _⟩ := g6 rfl
    have hone : ∀ t, t < 2 * l.length → (c.getD t Go.undef).oneCell' = true := fun t ht => by
      obtain ⟨y, _, hy⟩ := flatK_get l t ht
      rw [hca t ht, hy]
      split <;> rfl
    have hle : φ.le (froz φ b (2 * l.length) (fun t => c.getD t Go.undef) hone) := ⟨fun b' o v hv => by
      unfold froz
      simp only
      rw [if_neg (fun e => by rw [e.1, h5 o] at hv; cases hv)]
      exact hv, fun _ _ hn => hn⟩
    have hnew : ∀ t, t < 2 * l.length → (froz φ b (2 * l.length) (fun t => c.getD t Go.undef) hone).cell b t = some (c.getD t Go.undef) := fun t ht => by
      unfold froz
      simp only
      rw [if_pos ⟨trivial, ht⟩]
    have r1 : Rel (froz φ b (2 * l.length) (fun t => c.getD t Go.undef) hone) μ B (h'.set id none) w := by
      refine ⟨fun g cs hg => (r.glob g cs hg).mono hle (Mu.le_refl _), fun b' o v hv => ?_, r.size, r.inj, fun j b' y hj => by rw [List.length_set]; exact r.dom j b' y hj, fun j kb hk => ?_⟩
      · unfold froz at hv
        simp only at hv
        split at hv
        · rename_i hb
          obtain ⟨rfl, ho⟩ := hb
          simp only [Option.some.injEq] at hv
          have hoc : o < c.size := by omega
          unfold World.cell?
          simp only [h1]
          rw [Array.getD_eq_getD_getElem?, Array.getElem?_eq_getElem hoc] at hv
          simp only [Option.getD_some] at hv
          simp [Array.getElem?_eq_getElem hoc, hv]
        · exact r.cell b' o v hv
      · rw [hget_set] at hk
        split at hk
        · cases hk
        · rename_i hne
          obtain ⟨b', y, q1, q2⟩ := r.blk j kb hk
          have hil : id < h'.length := (r.dom id b _ hm).1
          have hbb : b' ≠ b := fun e => hne ⟨r.inj id j b _ _ hm (e ▸ q1), hil⟩
          refine ⟨b', y, q1, q2.mono hle (Mu.le_refl _) rfl (fun o v hv => ?_)⟩
          unfold froz at hv
          simp only at hv
          rw [if_neg (fun e => hbb e.1)] at hv
          exact hv
    refine ⟨.psl 2 (mdsV l) .any, _, froz φ b (2 * l.length) (fun t => c.getD t Go.undef) hone, μ, _, rfl, hK, ?_, r1, ⟨Phi.le_trans hx.phi hle, hx.mu, hx.fresh, fun b' o v hv => ?_⟩, hf⟩
    · have hml := mdsV_len l
      have e2 : (mdsV l).length = l.length := hml
      have := Rv.psl (φ := froz φ b (2 * l.length) (fun t => c.getD t Go.undef) hone) μ 2 (mdsV l) .any b 0 cap (fun i j => c.getD (i * 2 + j) Go.undef) (by omega) (fun i hi2 => by
        obtain ⟨y, hy⟩ : ∃ y, l[i]? = some y := ⟨_, List.getElem?_eq_getElem (by omega)⟩
        rw [List.getD_eq_getElem?_getD, mdsV_get hy]; rfl) (fun i j hi2 hj => by
        rw [Nat.zero_add]
        exact hnew (i * 2 + j) (by omega)) (fun i j hi2 hj => by
        obtain ⟨y, hy⟩ : ∃ y, l[i]? = some y := ⟨_, List.getElem?_eq_getElem (by omega)⟩
        have ht : i * 2 + j < 2 * l.length := by omega
        obtain ⟨z, hz1, hz2⟩ := flatK_get l (i * 2 + j) ht
        rw [show (i * 2 + j) / 2 = i by omega, hy] at hz1
        simp only [Option.some.injEq] at hz1
        subst hz1
        have hrow : (mdsV l).getD i [] = mdC y := by rw [List.getD_eq_getElem?_getD, mdsV_get hy]; rfl
        rw [hca _ ht, hz2, hrow]
        rcases (show j = 0 ∨ j = 1 by omega) with rfl | rfl
        · rw [if_pos (by omega)]; exact .bool _ _
        · rw [if_neg (by omega)]; exact .int _ _ _) trivial
      rw [e2] at this
      exact this
    · unfold froz at hv
      simp only at hv
      split at hv
      · rename_i hb
        rcases hx.fresh id b _ hm with ⟨y, hy⟩ | hy
        · exact .inr (.inr ⟨id, y, hb.1 ▸ hy⟩)
        · exact .inr (.inl (hb.1 ▸ hy))
      · exact hx.cells b' o v hv
end Go.Cx
namespace Go.Cx
open Go.Proofs Go.RowKit
set_option maxRecDepth 100000
set_option maxHeartbeats 4000000
section
variable {P : Program} {T : Nat → Option TI}
theorem Sem.unmap {g : FuncId} {args : List V} {h : Heap} {K : V → Heap → Prop} (k : Go.Cx.Sem P g args h fun v h' => ∃ (i clock : Nat) (es : List (V × V)), hget h' i = some (.mapc es clock) ∧
    ∀ fs : List (V × V × Nat), (fs.map fun x => (x.1, x.2.1)).Perm es → (fs.map fun x => x.2.2).Nodup → (∀ x ∈ fs, x.2.2 < clock) → K v (h'.set i (some (.map fs clock)))) : Go.Cx.Sem P g args h K := by
  refine ⟨fun φ μ B w cargs hB r ha => (k.run φ μ B w cargs hB r ha).mono ?_⟩
  rintro e w' ⟨v, h', φ', μ', cv, rfl, ⟨i, clock, es, hi, hK⟩, hv, r', hx, hf⟩
  obtain ⟨b, x, hm, h0, cc, fs, h1, h2, h3, h4, h5, h6⟩ := r'.blk i _ hi
  exact ⟨v, _, φ', μ', cv, rfl, hK fs h4 h5 h6, hv, r'.recast hm ⟨h0, cc, h1, h2, h3⟩, hx, hf⟩
theorem regP_op {md : Bool} {all rest : List Oper} {o : Oper} {env : List V} {h h' : Heap} {K : List V → Heap → Prop} {d : Nat} (v : V) (hd : o.dst = some d) (hg : o.guard = none) (hop : ∀ K' : V → Heap → Prop, K' v h' → opY P T md (evE env) h K' o.op) (hk : regP P T md all rest (env.set d v) h' K) : regP P T md all (o :: rest) env h K := by
  rw [regP_cons]
  unfold stepP guardN
  rw [hd, hg]
  dsimp only
  refine hop _ ?_
  simp only [V.force_eq, forceL_eq, forceH_eq]
  exact hk
end
theorem append_own {P : Program} {ev : Operand → V} {hg : Nat → Option Blk} {nid id id2 n ver e2 : Nat} {cs : List V} {y : Md} {s x : Operand} (hs : ev s = .gsl id 2 0 n n false ver) (hx : ev x = .lsl id2 2 0 1 1) (hb : hg id = some (.grow ver 24 2 cs)) (hb2 : hg id2 = some (.cells e2 (mdC y)))
    (hn : n * 2 = cs.length) (hsm : n < 100) : opF P TT true ev hg nid (.call { callee := .builtin .append, args := #[s, x], argTypes := #[37, 37] }) = some ⟨true, .gsl id 2 0 (n + 1) (n + 1) false (ver + 1), [(id, .grow (ver + 1) 24 2 (cs ++ mdC y))], [id, id2], 0⟩ := by
  have e37 : TT 37 = some ⟨.slice 24, 1, 24, .nils⟩ := rfl
  have e24 : TT 24 = some ⟨.struct [(0, 4), (1, 3)], 2, 16, .agg [.bool false, .int .i64 0]⟩ := rfl
  have hr : rdE hg 2 (.lsl id2 2 0 1 1) = some ⟨true, 1, mdC y, [id2]⟩ := by
    simp only [rdE, hb2]
    rfl
  have h1 : Nat.ble (n + 1) n = false := by
    cases h : Nat.ble (n + 1) n with
    | false => rfl
    | true => have := Nat.le_of_ble_eq_true h; omega
  have h2 : Nat.beq (n * 2) cs.length = true := by rw [hn]; exact Nat.beq_refl _
  have h3 : fitsB ⟨.struct [(0, 4), (1, 3)], 2, 16, .agg [.bool false, .int .i64 0]⟩ (n + 1) = true := by
    simp only [fitsB, Bool.and_eq_true]
    exact ⟨⟨rfl, rfl⟩, Nat.ble_eq_true_of_le (by omega)⟩
  have h4 : allOne (mdC y) = true := rfl
  simp only [opF, List.map_cons, List.map_nil, hs, hx, appendF, e37, e24, hr, slcK, cond_true, hb, h1, cond_false, h2, h3, h4, Nat.beq_refl, Bool.and_self]
  rfl
theorem perm_map {α β : Type} (f : α → β) {l1 m : List β} (h : l1.Perm m) : ∀ l2 : List α, m = l2.map f → ∃ l : List α, l.Perm l2 ∧ l1 = l.map f := by
  induction h with
  | nil => intro l2 e; cases l2 with
    | nil => exact ⟨[], .refl _, rfl⟩
    | cons x l => cases e
  | cons x _ ih =>
    intro l2 e
    cases l2 with
    | nil => cases e
    | cons y l =>
      rw [List.map_cons] at e
      injection e with e1 e2
      obtain ⟨k, hk, he⟩ := ih l e2
      exact ⟨y :: k, hk.cons y, by rw [List.map_cons, ← he, e1]⟩
  | swap x y l =>
    intro l2 e
    match l2, e with
    | a :: b :: k, e =>
      simp only [List.map_cons, List.cons.injEq] at e
      obtain ⟨e1, e2, e3⟩ := e
      exact ⟨b :: a :: k, .swap _ _ _, by simp [e1, e2, e3]⟩
  | trans _ _ ih1 ih2 =>
    intro l2 e
    obtain ⟨k, hk, he⟩ := ih2 l2 e
    obtain ⟨k', hk', he'⟩ := ih1 k he
    exact ⟨k', hk'.trans hk, he'⟩
abbrev Ent := (Bool × Int × Nat) × Nat
def entV (p : Ent) : V × V × Nat := (kV p.1, bV p.1, p.2)
theorem ents_of {fs : List (V × V × Nat)} (h : (fs.map fun x => (x.1, x.2.1)).Perm (keyT.map fun e => (kV e, bV e))) : ∃ T : List Ent, fs = T.map entV ∧ (T.map fun p => p.1).Perm keyT := by
  obtain ⟨ks, hk, he⟩ := perm_map (fun e => (kV e, bV e)) h keyT rfl
  have hl : fs.length = ks.length := by have := congrArg List.length he; simpa using this
  refine ⟨ks.zip (fs.map fun x => x.2.2), ?_, ?_⟩
  · apply List.ext_getElem
    · simp [hl]
    · intro i h1 h2
      have e := congrArg (fun l => l[i]?) he
      simp only [List.getElem?_map] at e
      rw [List.getElem?_eq_getElem h1, List.getElem?_eq_getElem (by omega)] at e
      simp only [Option.map_some, Option.some.injEq, Prod.mk.injEq] at e
      simp only [List.getElem_map, List.getElem_zip, entV]
      rw [← e.1, ← e.2]
  · rw [List.map_fst_zip (by simp [hl])]
    exact hk
/-- The modes that are set, in order. -/
def allOf (m : BitVec 16) : List Md := (keyT.filter fun e => m.getLsbD e.2.2).map fun e => ⟨e.1, e.2.1⟩
def accOf (m : BitVec 16) (D : List Ent) : List Md := (D.filter fun p => m.getLsbD p.1.2.2).map fun p => ⟨p.1.1, p.1.2.1⟩
theorem accOf_snoc (m : BitVec 16) (D : List Ent) (p : Ent) : accOf m (D ++ [p]) = accOf m D ++ (if m.getLsbD p.1.2.2 then [⟨p.1.1, p.1.2.1⟩] else []) := by
  unfold accOf
  rw [List.filter_append, List.map_append]
  congr 1
  cases h : m.getLsbD p.1.2.2 <;> simp [h]
theorem sort_all (m : BitVec 16) (D T : List Ent) (hD : D.Perm T) (hT : (T.map fun p => p.1).Perm keyT) : sortM (accOf m D) = allOf m := by
  have hp : (accOf m D).Perm (allOf m) := by
    have h1 : (D.map fun p => p.1).Perm keyT := (hD.map _).trans hT
    have e : accOf m D = ((D.map fun p => p.1).filter fun e => m.getLsbD e.2.2).map fun e => (⟨e.1, e.2.1⟩ : Md) := by
      unfold accOf
      rw [List.filter_map, List.map_map]
      rfl
    rw [e]
    exact (h1.filter _).map _
  have hs : (sortM (accOf m D)).Perm (allOf m) := (List.mergeSort_perm _ _).trans hp
  have tr : ∀ a b c : Md, (!(ltOf cfM b a)) = true → (!(ltOf cfM c b)) = true → (!(ltOf cfM c a)) = true := fun a b c h1 h2 => by
    simp only [Bool.not_eq_true'] at *
    exact swoM.ntrans c b a h2 h1
  have tot : ∀ a b : Md, ((!(ltOf cfM b a)) || !(ltOf cfM a b)) = true := fun a b => by
    cases h : ltOf cfM b a with
    | false => rfl
    | true =>
      cases h2 : ltOf cfM a b with
      | false => rfl
      | true => have := swoM.trans a b a h2 h; rw [swoM.irrefl] at this; cases this
  have p1 : (sortM (accOf m D)).Pairwise fun a b => (!(ltOf cfM b a)) = true := List.pairwise_mergeSort tr tot _
  have p2 : (allOf m).Pairwise fun a b => (!(ltOf cfM b a)) = true := by
    unfold allOf
    rw [List.pairwise_map]
    refine List.Pairwise.filter _ ?_
    have : keyT.Pairwise fun a b => rankI ⟨a.1, a.2.1⟩ < rankI ⟨b.1, b.2.1⟩ ∨ rankI ⟨a.1, a.2.1⟩ = rankI ⟨b.1, b.2.1⟩ ∧ a.2.1 < b.2.1 := by
      unfold keyT; decide
    refine this.imp fun {a b} h => ?_
    rw [lt_eq]
    simp only [Bool.not_eq_true', decide_eq_false_iff_not]
    omega
  exact hs.eq_of_pairwise (fun a b _ _ h1 h2 => by
    simp only [Bool.not_eq_true'] at h1 h2
    exact totM a b h2 h1) p1 p2
end Go.Cx
