/- What functions of this seat compute, each for every argument of the shapes that are named; no condition beside the stated ones. -/
import Derived.Test.YtchadfgdcncpkaaGreatLJ4g
import Derived.Test.YtchadfgdcncpkaaGreatLQ2g
namespace Go.Cx
open Go.Proofs Go.Row
set_option maxRecDepth 100000
set_option maxHeartbeats 8000000
/-! ### Texts are printed -/
def runesS (p : Pg) (by_ : Int) (l : List Int) : Pg := l.foldl (fun p r => runeS p r by_) p
def countR (l : List Int) : Nat := (l.filter fun r => decide (0 ≤ wOf r)).length
theorem runesS_good {p : Pg} (h : p.good) (by_ : Int) (l : List Int) : (runesS p by_ l).good := by
  induction l generalizing p with
  | nil => exact h
  | cons r l ih => exact ih (PgI_rune h r by_)
theorem uDecodeX (ss : List ByteArray) (hn : ss.length < 100000) (hb : (bytesD ss).length < 1000000) : Fn Tryz.prog 80 [.psl 1 (strV ss) .exact] (someV (decodeS ss)) :=
  (uDecode ss hn hb).argsT ⟨forgT_psl, trivial⟩ rfl
def envTx (ss : List ByteArray) (by_ : Int) : List V := [.ptr 0 0, .int .u8 by_, .psl 1 (strV ss) .exact, .ptr 7 0, .ptr 8 0, .undef, .ptr 9 0, .undef, .undef, .fn (.func 79) [] [.ptr 10 0]] ++ List.replicate 8 .undef
noncomputable def hpTx (q : Pg) (ss : List ByteArray) (by_ : Int) (n : Nat) : Heap := hpOf (pgB q) ++ [some (.cells 32 [.ptr 0 0]), some (.cells 34 [.int .u8 by_]), some (.cells 3 [.int .i64 n]), some (.cells 98 [.psl 1 (strV ss) .exact]), loopB Tryz.f12 0 (envTx ss by_)]
def envRn (l : List Int) (i : Nat) : List V := [.yld 11, .ptr 10 0, .undef, .undef, .undef, .undef, .psl 1 (runV l) .any, .int .i64 l.length, .int .i64 i] ++ List.replicate 8 .undef
theorem pText (p : Pg) (h : p.good) (by_ : Int) (ss : List ByteArray) (hn : ss.length < 100000) (hb : (bytesD ss).length < 1000000) :
    Eff Tryz.prog 12 [.ptr 0 0, .int .u8 by_, .psl 1 (strV ss) .exact] (pgB p) (pgB (runesS p by_ (decodeS ss))) (.int .i64 (countR (decodeS ss))) := by
  have hde := uDecodeX ss hn hb
  have hlen : (decodeS ss).length < 4000000 := by
    have h1 := decode_len (bytesD ss)
    unfold decodeS
    simp only
    rw [List.length_append]
    rcases endS_two ((bytesD ss).foldl byteD (dc0, [])).1 with h2 | h2 <;> rw [h2] <;> simp only [List.length_nil, List.length_cons] <;> omega
  generalize decodeS ss = l at hde hlen ⊢
  cases l with
  | nil =>
    refine Eff.of rfl rfl (pgB_ok p h.ok) (pgB_ok _ h.ok) (Nat.le_refl _) (Sem.of_body tysOk md0 Tryz.func12 rfl rfl ?_)
    refine Sem.of_body tysOk md0 Tryz.func40 rfl rfl ?_
    refine RangeP.fgt (envTx ss by_) (by repeat (first | exact trivial | refine ⟨.inl rfl, ?_⟩ | refine ⟨.inr rfl, ?_⟩)) ?_
    refine RangeP.intro rfl rfl ?_
    refine Sem.of_body tysOk md0 Tryz.func79 rfl rfl ?_
    refine hde.sem _ ?_
    refine LoopP.unroll (md := md0) ?_
    refine BCase.no rfl ?_
    exact ⟨rfl, Nat.le_of_ble_eq_true rfl, .inl rfl, .inl rfl, .inl rfl, .inl rfl, .inl rfl, .inl rfl, .inl rfl, trivial⟩
  | cons r0 l0 =>
    change Fn _ _ _ (.psl 1 (runV (r0 :: l0)) .any) at hde
    generalize r0 :: l0 = l at hde hlen ⊢
    refine Eff.of rfl rfl (pgB_ok p h.ok) (pgB_ok _ (runesS_good h by_ l).ok) (Nat.le_refl _) (Sem.of_body tysOk md0 Tryz.func12 rfl rfl ?_)
    refine Sem.of_body tysOk md0 Tryz.func40 rfl rfl ?_
    refine RangeP.fgt (envTx ss by_) (by repeat (first | exact trivial | refine ⟨.inl rfl, ?_⟩ | refine ⟨.inr rfl, ?_⟩)) ?_
    refine RangeP.intro rfl rfl ?_
    refine Sem.of_body tysOk md0 Tryz.func79 rfl rfl ?_
    refine hde.sem _ ?_
    refine LoopP.inv (md := md0) (fun k env h => ∃ (i : Nat), k = l.length - i ∧ i ≤ l.length ∧ env = envRn l i ∧ h = hpTx (runesS p by_ (l.take i)) ss by_ (countR (l.take i))) l.length ⟨envRn l 0, _, .same ?_ rfl, 0, rfl, Nat.zero_le _, rfl, rfl⟩ ?_
    · have e : V.int .i64 ((runV l).length : Nat) = V.int .i64 (l.length : Nat) := by rw [runV_len]
      repeat (first | exact trivial | refine ⟨.inl rfl, ?_⟩ | refine ⟨.inl e.symm, ?_⟩ | refine ⟨.inr rfl, ?_⟩)
    rintro k _ _ ⟨i, rfl, hi, rfl, rfl⟩
    have hq := runesS_good h by_ (l.take i)
    refine ⟨fun h => ?_, fun h => ?_⟩
    · have hi' : i < l.length := by have := of_decide_eq_true h; omega
      obtain ⟨r, hr⟩ : ∃ r, l[i]? = some r := ⟨_, List.getElem?_eq_getElem hi'⟩
      have hrun : runesS p by_ (l.take (i + 1)) = runeS (runesS p by_ (l.take i)) r by_ := by
        obtain ⟨q1, q2⟩ := List.getElem?_eq_some_iff.1 hr
        rw [List.take_succ_eq_append_getElem q1, q2]
        unfold runesS
        rw [List.foldl_append]; rfl
      have hpr := pRune (runesS p by_ (l.take i)) hq r by_
      rw [← hrun] at hpr
      refine ⟨[.int .i32 r], ⟨by omega, by rw [Int.toNat_natCast]; simp [runV, hr]⟩, gdP rfl ?_⟩
      refine RoundP.intro rfl rfl (Wp.of (md := md0) tysOk ?_)
      conv => whnf
      refine Wp.of (md := md0) tysOk ?_
      refine hpr.here rfl [_, _, _, _, _] rfl ?_
      have hcn : countR (l.take (i + 1)) = countR (l.take i) + (if 0 ≤ wOf r then 1 else 0) := by
        obtain ⟨q1, q2⟩ := List.getElem?_eq_some_iff.1 hr
        rw [List.take_succ_eq_append_getElem q1, q2]
        unfold countR
        rw [List.filter_append, List.length_append]
        congr 1
        by_cases h0 : 0 ≤ wOf r
        · simp [h0]
        · simp [h0]
      have hcl : countR (l.take i) ≤ i := by
        unfold countR
        exact Nat.le_trans (List.length_filter_le _ _) (by rw [List.length_take]; omega)
      refine ⟨fun h0 => ?_, fun h0 => ?_⟩
      · have h0 : 0 ≤ wOf r := of_decide_eq_true h0
        rw [if_pos h0] at hcn
        repeat (first | refine BCase.yes rfl ?_ | refine BCase.no rfl ?_)
        refine ⟨l.length - (i + 1), envRn l (i + 1), hpTx (runesS p by_ (l.take (i + 1))) ss by_ (countR (l.take (i + 1))), by omega, .same ?_ ?_, i + 1, rfl, hi', rfl, rfl⟩
        · repeat (first | exact trivial | refine ⟨.inl rfl, ?_⟩ | refine ⟨.inl (congrArg (V.int .i64) (wrs i 1 (by omega)).symm), ?_⟩ | refine ⟨.inr rfl, ?_⟩)
        · rw [hcn]
          exact congrArg (fun z => hpOf (pgB (runesS p by_ (l.take (i + 1)))) ++ [_, _, some (Blk.cells 3 [.int .i64 z]), _, _]) (wrs _ 1 (by omega)).symm
      · have h0 : ¬ 0 ≤ wOf r := of_decide_eq_false h0
        rw [if_neg h0] at hcn
        repeat (first | refine BCase.yes rfl ?_ | refine BCase.no rfl ?_)
        refine ⟨l.length - (i + 1), envRn l (i + 1), hpTx (runesS p by_ (l.take (i + 1))) ss by_ (countR (l.take (i + 1))), by omega, .same ?_ ?_, i + 1, rfl, hi', rfl, rfl⟩
        · repeat (first | exact trivial | refine ⟨.inl rfl, ?_⟩ | refine ⟨.inl (congrArg (V.int .i64) (wrs i 1 (by omega)).symm), ?_⟩ | refine ⟨.inr rfl, ?_⟩)
        · rw [hcn]; rfl
    · have hi' : i = l.length := by have := of_decide_eq_false h; omega
      subst hi'
      rw [List.take_length]
      exact ⟨rfl, Nat.le_of_ble_eq_true rfl, .inl rfl, .inl rfl, .inl rfl, .inl rfl, .inl rfl, .inl rfl, .inl rfl, trivial⟩
end Go.Cx
namespace Go.Cx
open Go.Proofs Go.Row
set_option maxRecDepth 100000
set_option maxHeartbeats 8000000
/-! ### The last rune is printed again -/
def timesN (p : Pg) (n : Int) : Nat := (max 0 (min n (p.a.rows * p.a.cols))).toNat
def repeatS (p : Pg) (n by_ : Int) : Pg :=
  let b := join2 by_ p.known
  let p1 := touchS p b
  if p.last = 0 then p1 else runesS p1 b (List.replicate (timesN p1 n) p.last)
def repeatN (p : Pg) (n by_ : Int) : Nat := if p.last = 0 then 0 else timesN (touchS p (join2 by_ p.known)) n
theorem repeatS_good {p : Pg} (h : p.good) (n by_ : Int) : (repeatS p n by_).good := by
  unfold repeatS
  have ht := (h.inv.touch (join2 by_ p.known) fun _ _ _ => trivial).good
  simp only
  split
  · exact ht
  · exact runesS_good ht _ _
def envRp (r b : Int) (m i : Nat) : List V := [.ptr 0 0, .int .i64 m, .int .u8 b, .undef, .undef, .undef, .undef, .int .i32 r] ++ List.replicate 29 .undef ++ [.int .i64 m, .int .i64 i] ++ List.replicate 7 .undef
theorem mul_bounds {a : Ar} (ha : a.ok) : 1 ≤ a.rows * a.cols ∧ a.rows * a.cols ≤ 262144 := by
  have h1 := ha.r1
  have h2 := ha.r2
  have h3 := ha.c1
  have h4 := ha.c2
  constructor
  · calc (1 : Int) = 1 * 1 := rfl
      _ ≤ a.rows * a.cols := Int.mul_le_mul h1 h3 (by omega) (by omega)
  · calc a.rows * a.cols ≤ 512 * 512 := Int.mul_le_mul h2 h4 (by omega) (by omega)
      _ = 262144 := rfl
theorem pRepeat (p : Pg) (h : p.good) (n by_ : Int) : Eff Tryz.prog 29 [.ptr 0 0, .int .i64 n, .int .u8 by_] (pgB p) (pgB (repeatS p n by_)) (.int .i64 (repeatN p n by_)) := by
  refine Eff.of rfl rfl (pgB_ok p h.ok) (pgB_ok _ (repeatS_good h n by_).ok) (Nat.le_refl _) (Sem.of_body tysOk md0 Tryz.func29 rfl rfl ?_)
  unfold repeatS repeatN
  repeat (first | refine BCase.yes rfl ?_ | refine BCase.no rfl ?_)
  refine (pLast p h.ok).here rfl [] rfl ?_
  refine (join2_fn by_ p.known).sem _ ?_
  have ht := pTouch p h.ok h.sh (join2 by_ p.known)
  have hg := (h.inv.touch (join2 by_ p.known) fun _ _ _ => trivial).good
  simp only
  generalize touchS p (join2 by_ p.known) = p1 at ht hg ⊢
  generalize join2 by_ p.known = b at ht ⊢
  refine ht.here rfl [] rfl ?_
  refine ⟨fun h0 => ?_, fun h0 => ?_⟩
  · have h0 : p.last = 0 := by have h0 : (p.last == 0) = true := h0; exact eq_of_beq h0
    rw [if_pos h0, if_pos h0]
    exact ⟨rfl, Nat.le_of_ble_eq_true rfl, .inl rfl, .inl rfl, .inl rfl, .inl rfl, .inl rfl, .inl rfl, .inl rfl, trivial⟩
  · have h0 : ¬ p.last = 0 := by have h0 : (p.last == 0) = false := h0; exact fun e => by rw [e] at h0; cases h0
    rw [if_neg h0, if_neg h0]
    generalize p.last = r
    refine (pArea p1 hg.ok).here rfl [] rfl ?_
    have hb := mul_bounds hg.a
    have hm : (if (if IntKind.i64.wrap (p1.a.rows * p1.a.cols) < n then IntKind.i64.wrap (p1.a.rows * p1.a.cols) else n) > 0 then (if IntKind.i64.wrap (p1.a.rows * p1.a.cols) < n then IntKind.i64.wrap (p1.a.rows * p1.a.cols) else n) else 0) = ((timesN p1 n : Nat) : Int) := by
      rw [wri (by omega) (by omega)]
      unfold timesN
      split <;> split <;> omega
    have hm2 : timesN p1 n ≤ 262144 := by unfold timesN; omega
    generalize timesN p1 n = m at hm hm2 ⊢
    have e1 := congrArg (V.int .i64) hm
    refine LoopP.inv (md := md0) (fun k env h => ∃ (i : Nat), k = m - i ∧ i ≤ m ∧ env = envRp r b m i ∧ h = hpOf (pgB (runesS p1 b (List.replicate i r))) ++ [some (.cells 55 (Ar.cs p1.a))]) m ⟨envRp r b m 0, _, .same ?_ rfl, 0, rfl, Nat.zero_le _, rfl, rfl⟩ ?_
    · repeat (first | exact trivial | refine ⟨.inl rfl, ?_⟩ | refine ⟨.inl e1.symm, ?_⟩ | refine ⟨.inr rfl, ?_⟩)
    rintro k _ _ ⟨i, rfl, hi, rfl, rfl⟩
    have hq := runesS_good hg b (List.replicate i r)
    refine ⟨fun h => ?_, fun h => ?_⟩
    · have hi' : i < m := by have := of_decide_eq_true h; omega
      have hrun : runesS p1 b (List.replicate (i + 1) r) = runeS (runesS p1 b (List.replicate i r)) r b := by
        rw [List.replicate_succ']
        unfold runesS
        rw [List.foldl_append]; rfl
      have hpr := pRune _ hq r b
      rw [← hrun] at hpr
      refine hpr.here rfl [_] rfl ?_
      refine ⟨m - (i + 1), envRp r b m (i + 1), _, by omega, .same ?_ rfl, i + 1, rfl, hi', rfl, rfl⟩
      repeat (first | exact trivial | refine ⟨.inl rfl, ?_⟩ | refine ⟨.inl (congrArg (V.int .i64) (wrs i 1 (by omega)).symm), ?_⟩ | refine ⟨.inr rfl, ?_⟩)
    · have hi' : i = m := by have := of_decide_eq_false h; omega
      subst hi'
      exact ⟨rfl, Nat.le_of_ble_eq_true rfl, .inl rfl, .inl rfl, .inl rfl, .inl rfl, .inl rfl, .inl rfl, .inl rfl, trivial⟩
end Go.Cx
namespace Go.Cx
open Go.Proofs Go.Row
set_option maxRecDepth 100000
set_option maxHeartbeats 8000000
/-! ### The statements' own kit: steps -/
structure Dr where
  fl : Int
  c : Int
  f0 : Int
  f1 : Int
  f2 : Int
  b0 : Int
  b1 : Int
  b2 : Int
def Dr.cs (d : Dr) : List V := [.int .u16 d.fl, .int .u8 d.c, .int .u8 d.f0, .int .u8 d.f1, .int .u8 d.f2, .int .u8 d.b0, .int .u8 d.b1, .int .u8 d.b2]
def Dr.v (d : Dr) : V := .agg d.cs
structure Sp where
  what : Int
  a : Int
  b : Int
  r : Int
  high : Bool
  d : Dr
def Sp.cs (s : Sp) : List V := [.int .u8 s.what, .int .u8 s.a, .int .u8 s.b, .int .i32 s.r, .bool s.high] ++ s.d.cs
def Sp.v (s : Sp) : V := .agg s.cs
def u8r (n : Int) : Prop := 0 ≤ n ∧ n < 256
structure Sp.ok (s : Sp) : Prop where
  what : u8r s.what
  a : u8r s.a
  b : u8r s.b
  r1 : -2147483648 ≤ s.r
  r2 : s.r < 2147483648
theorem tm {n : Int} (h : 0 ≤ n) (k : Int) : n.tmod k = n % k := Int.tmod_eq_emod_of_nonneg h
theorem wri' {n : Int} (h0 : -1000 ≤ n) (h1 : n < 1000) : IntKind.i64.wrap n = n := wri (by omega) (by omega)
theorem sizeF {a b : Int} (ha : u8r a) (hb : u8r b) : Fn Tryz.prog 7 [.int .u8 a, .int .u8 b] (.tup [.int .i64 ((a % 7).toNat + 1 : Nat), .int .i64 ((b % 9).toNat + 1 : Nat)]) := by
  obtain ⟨a1, a2⟩ := ha
  obtain ⟨b1, b2⟩ := hb
  refine Fn.of_body tysOk md0 Tryz.func7 rfl rfl rfl rfl ?_
  show V.tup [.int .i64 (IntKind.i64.wrap (1 + IntKind.i64.wrap (a.tmod 7))), .int .i64 (IntKind.i64.wrap (1 + IntKind.i64.wrap (b.tmod 9)))] = _
  have h1 : IntKind.i64.wrap (1 + IntKind.i64.wrap (a.tmod 7)) = (((a % 7).toNat + 1 : Nat) : Int) := by
    rw [tm a1, wri' (n := a % 7) (by omega) (by omega), wri' (by omega) (by omega)]; omega
  have h2 : IntKind.i64.wrap (1 + IntKind.i64.wrap (b.tmod 9)) = (((b % 9).toNat + 1 : Nat) : Int) := by
    rw [tm b1, wri' (n := b % 9) (by omega) (by omega), wri' (by omega) (by omega)]; omega
  rw [h1, h2]
def baseS (n : Int) : Int := if n.tmod 4 = 3 then 1 else 0
theorem baseF (n : Int) : Fn Tryz.prog 9 [.int .u8 n] (.int .u8 (baseS n)) := by
  unfold baseS
  refine Fn.of_body tysOk md0 Tryz.func9 rfl rfl rfl rfl ?_
  refine ⟨fun h => ?_, fun h => ?_⟩
  · have h : (n.tmod 4 == 3) = true := h
    rw [if_pos (eq_of_beq h)]; rfl
  · have h : (n.tmod 4 == 3) = false := h
    rw [if_neg (fun e => by rw [e] at h; cases h)]; rfl
def Sp.by_ (s : Sp) : Int := if s.high then 1 else 0
theorem byF (s : Sp) : Fn Tryz.prog 13 [s.v] (.int .u8 s.by_) := by
  unfold Sp.by_
  refine Fn.of_body tysOk md0 Tryz.func13 rfl rfl rfl rfl ?_
  refine ⟨fun h => ?_, fun h => ?_⟩
  · have h : s.high = true := h
    rw [if_pos h]; rfl
  · have h : s.high = false := h
    rw [h]; rfl
def modeT : List Md := [⟨false, 4⟩, ⟨true, 7⟩, ⟨true, 6⟩, ⟨true, 47⟩]
theorem modeF (s : Sp) (hs : s.ok) : ∃ x on, Fn Tryz.prog 64 [s.v] (.tup [Md.v x, .bool on]) := by
  obtain ⟨a1, a2⟩ := hs.a
  have h4 : s.a.tmod 4 = s.a % 4 := tm a1 4
  have hl : (s.a % 4).toNat < modeT.length := by show _ < 4; omega
  refine ⟨modeT[(s.a % 4).toNat], ((s.b.tmod 2) == 0), ?_⟩
  have hx : ∃ cs, (mdsV modeT)[(s.a.tmod 4).toNat]? = some cs ∧ cs = mdC (modeT[(s.a % 4).toNat]) := ⟨_, by rw [h4]; exact mdsV_get (List.getElem?_eq_getElem hl), rfl⟩
  obtain ⟨cs, hc, rfl⟩ := hx
  generalize modeT[(s.a % 4).toNat] = x at hc ⊢
  refine Fn.of_body tysOk md0 Tryz.func64 rfl rfl rfl rfl ?_
  refine DrawP.intro tysOk mixed false ?_
  refine ⟨mdC x, ⟨by omega, hc⟩, gdP rfl ?_⟩
  refine ⟨by kernel_rfl, ?_⟩
  rfl
theorem wr32 {n : Int} (h0 : -2147483648 ≤ n) (h1 : n < 2147483648) : IntKind.i32.wrap n = n := by
  unfold IntKind.wrap; simp [IntKind.bits, IntKind.signed]; omega
theorem runeF (s : Sp) (hs : s.ok) : ∃ r, -2147483648 ≤ r ∧ Fn Tryz.prog 67 [s.v] (.int .i32 r) := by
  obtain ⟨b1, b2⟩ := hs.b
  have h3 : ∀ k : Int, 0 < k → 0 ≤ s.b.tmod k ∧ s.b.tmod k < 256 := fun k hk => by
    rw [tm b1]
    have h1 := Int.emod_nonneg s.b (show k ≠ 0 by omega)
    have h2 : s.b % k ≤ s.b := by
      obtain ⟨m, hm⟩ := Int.eq_ofNat_of_zero_le b1
      obtain ⟨j, hj⟩ := Int.eq_ofNat_of_zero_le (show 0 ≤ k by omega)
      rw [hm, hj]
      have := Nat.mod_le m j
      exact_mod_cast this
    omega
  refine ⟨if s.a.tmod 8 = 0 then s.r else if s.a.tmod 8 = 1 then IntKind.i32.wrap (20013 + IntKind.i32.wrap (s.b.tmod 3)) else if s.a.tmod 8 = 2 then IntKind.i32.wrap (768 + IntKind.i32.wrap (s.b.tmod 4)) else IntKind.i32.wrap (97 + IntKind.i32.wrap (s.b.tmod 26)), ?_, ?_⟩
  · have h5 := h3 3 (by omega)
    have h6 := h3 4 (by omega)
    have h7 := h3 26 (by omega)
    split
    · exact hs.r1
    · split
      · rw [wr32 (n := s.b.tmod 3) (by omega) (by omega), wr32 (by omega) (by omega)]; omega
      · split
        · rw [wr32 (n := s.b.tmod 4) (by omega) (by omega), wr32 (by omega) (by omega)]; omega
        · rw [wr32 (n := s.b.tmod 26) (by omega) (by omega), wr32 (by omega) (by omega)]; omega
  refine Fn.of_body tysOk md0 Tryz.func67 rfl rfl rfl rfl ?_
  refine ⟨fun h => ?_, fun h => ?_⟩
  · have h : (s.a.tmod 8 == 0) = true := h
    rw [if_pos (eq_of_beq h)]; rfl
  have h : (s.a.tmod 8 == 0) = false := h
  rw [if_neg (fun e => by rw [e] at h; cases h)]
  refine ⟨fun h => ?_, fun h => ?_⟩
  · have h : (s.a.tmod 8 == 1) = true := h
    rw [if_pos (eq_of_beq h)]; rfl
  have h : (s.a.tmod 8 == 1) = false := h
  rw [if_neg (fun e => by rw [e] at h; cases h)]
  refine ⟨fun h => ?_, fun h => ?_⟩
  · have h : (s.a.tmod 8 == 2) = true := h
    rw [if_pos (eq_of_beq h)]; rfl
  have h : (s.a.tmod 8 == 2) = false := h
  rw [if_neg (fun e => by rw [e] at h; cases h)]
  rfl
theorem colorF (n x y z : Int) : ∃ k r g b, Fn Tryz.prog 39 [.int .u8 n, .agg [.int .u8 x, .int .u8 y, .int .u8 z]] (.agg [.int .u8 k, .int .u8 r, .int .u8 g, .int .u8 b]) := by
  by_cases h1 : n.tmod 4 = 1
  · refine ⟨1, x, 0, 0, ?_⟩
    refine Fn.of_body tysOk md0 Tryz.func39 rfl rfl rfl rfl ?_
    refine BCase.yes (show (n.tmod 4 == 1) = true by rw [h1]; rfl) ?_
    rfl
  by_cases h2 : n.tmod 4 = 2
  · refine ⟨2, x, y, z, ?_⟩
    refine Fn.of_body tysOk md0 Tryz.func39 rfl rfl rfl rfl ?_
    refine BCase.no (show (n.tmod 4 == 1) = false from beq_eq_false_iff_ne.2 h1) ?_
    refine BCase.yes (show (n.tmod 4 == 2) = true by rw [h2]; rfl) ?_
    rfl
  by_cases h3 : n.tmod 4 = 3
  · refine ⟨1, x.tmod 16, 0, 0, ?_⟩
    refine Fn.of_body tysOk md0 Tryz.func39 rfl rfl rfl rfl ?_
    refine BCase.no (show (n.tmod 4 == 1) = false from beq_eq_false_iff_ne.2 h1) ?_
    refine BCase.no (show (n.tmod 4 == 2) = false from beq_eq_false_iff_ne.2 h2) ?_
    refine BCase.yes (show (n.tmod 4 == 3) = true by rw [h3]; rfl) ?_
    rfl
  · refine ⟨0, 0, 0, 0, ?_⟩
    refine Fn.of_body tysOk md0 Tryz.func39 rfl rfl rfl rfl ?_
    refine BCase.no (show (n.tmod 4 == 1) = false from beq_eq_false_iff_ne.2 h1) ?_
    refine BCase.no (show (n.tmod 4 == 2) = false from beq_eq_false_iff_ne.2 h2) ?_
    refine BCase.no (show (n.tmod 4 == 3) = false from beq_eq_false_iff_ne.2 h3) ?_
    rfl
def flagB (fl : Int) : Bool := ((IntKind.u16.wrap ((BitVec.ofInt IntKind.u16.bits (fl.tmod 512) &&& BitVec.ofInt IntKind.u16.bits 8).toNat : Int)) != 0)
def flagS (fl : Int) : Int := bif flagB fl then IntKind.u16.wrap ((BitVec.ofInt IntKind.u16.bits (fl.tmod 512) &&& ~~~ BitVec.ofInt IntKind.u16.bits 256).toNat : Int) else fl.tmod 512
theorem attrF (d : Dr) : ∃ a, Fn Tryz.prog 11 [d.v] (At.v a) := by
  obtain ⟨fl, c, f0, f1, f2, b0, b1, b2⟩ := d
  obtain ⟨k1, r1, g1, x1, h1⟩ := colorF c f0 f1 f2
  obtain ⟨k2, r2, g2, x2, h2⟩ := colorF (IntKind.u8.wrap (c.tdiv 4)) b0 b1 b2
  refine ⟨⟨k1, r1, g1, x1, k2, r2, g2, x2, flagS fl⟩, ?_⟩
  unfold flagS
  refine Fn.of_body tysOk md0 Tryz.func11 rfl rfl rfl rfl ?_
  refine DrawP.intro tysOk mixed false ?_
  refine ⟨_, h1.callT _ _, ?_⟩
  refine gdP rfl ?_
  refine ⟨_, h2.callT _ _, ?_⟩
  refine ⟨by kernel_rfl, ?_⟩
  refine ⟨fun h => ?_, fun h => ?_⟩
  · have h : flagB fl = true := h
    rw [h]; rfl
  · have h : flagB fl = false := h
    rw [h]; rfl
end Go.Cx
namespace Go.Cx
open Go.Proofs Go.Row
set_option maxRecDepth 100000
set_option maxHeartbeats 8000000
/-! ### Rows stay whole -/
theorem Whole.at {r : List Cl} (h : Whole r) : ∀ {j : Nat} {d : Cl}, r[j]? = some d → (∃ x y, r = x ++ d :: y ∧ x.length = j ∧ d.kind = 0 ∧ Whole x ∧ Whole y) ∨ (∃ x y, r = x ++ d :: Row.half d :: y ∧ x.length = j ∧ d.kind = 1 ∧ Whole x ∧ Whole y) ∨ (d.rune = 0 ∧ d.kind = 2) := by
  induction h with
  | nil => intro j d hj; simp at hj
  | @one c r hc hr ih =>
    intro j d hj
    cases j with
    | zero => simp only [List.getElem?_cons_zero, Option.some.injEq] at hj; subst hj; exact .inl ⟨[], r, rfl, rfl, hc, .nil, hr⟩
    | succ j =>
      rcases ih (by simpa using hj) with ⟨x, y, e, hl, hk, hx, hy⟩ | ⟨x, y, e, hl, hk, hx, hy⟩ | h3
      · exact .inl ⟨c :: x, y, by rw [e]; rfl, by simp [hl], hk, .one hc hx, hy⟩
      · exact .inr (.inl ⟨c :: x, y, by rw [e]; rfl, by simp [hl], hk, .one hc hx, hy⟩)
      · exact .inr (.inr h3)
  | @two c r hc hr ih =>
    intro j d hj
    match j with
    | 0 => simp only [List.getElem?_cons_zero, Option.some.injEq] at hj; subst hj; exact .inr (.inl ⟨[], r, rfl, rfl, hc, .nil, hr⟩)
    | 1 =>
      have hj : some (Row.half c) = some d := hj
      simp only [Option.some.injEq] at hj; subst hj; exact .inr (.inr ⟨rfl, rfl⟩)
    | j + 2 =>
      rcases ih (by simpa using hj) with ⟨x, y, e, hl, hk, hx, hy⟩ | ⟨x, y, e, hl, hk, hx, hy⟩ | h3
      · exact .inl ⟨c :: Row.half c :: x, y, by rw [e]; rfl, by simp [hl], hk, .two hc hx, hy⟩
      · exact .inr (.inl ⟨c :: Row.half c :: x, y, by rw [e]; rfl, by simp [hl], hk, .two hc hx, hy⟩)
      · exact .inr (.inr h3)
theorem markC_kind (c : Cl) (m : Int) : (markC c m).kind = c.kind := by unfold markC; split; rfl; split <;> rfl
theorem markC_half (c : Cl) (m : Int) : Row.half (markC c m) = Row.half c := by unfold markC; split; rfl; split <;> rfl
theorem set_mid (x : List Cl) (d e : Cl) (y : List Cl) {j : Nat} (hl : x.length = j) : (x ++ d :: y).set j e = x ++ e :: y := by
  subst hl
  rw [List.set_append_right _ _ (Nat.le_refl _), Nat.sub_self]; rfl
theorem mark1_whole {r : List Cl} (h : Whole r) {j : Nat} {d : Cl} (hj : r[j]? = some d) (m l : Int) : Whole (mark1 r j d m l) := by
  unfold mark1
  split
  · exact h
  · rename_i h0
    rcases Whole.at h hj with ⟨x, y, rfl, hl, hk, hx, hy⟩ | ⟨x, y, rfl, hl, hk, hx, hy⟩ | h3
    · unfold labR
      rw [if_neg (by rw [markC_kind, hk]; decide), set_mid x d _ y hl, set_mid x _ _ y hl]
      exact hx.append (.one (by show (markC d m).kind = 0; rw [markC_kind, hk]) hy)
    · unfold labR
      rw [if_pos (by rw [markC_kind, hk]), set_mid x d _ _ hl]
      have hg : (x ++ markC d m :: Row.half d :: y)[j + 1]? = some (Row.half d) := by
        subst hl
        rw [List.getElem?_append_right (by omega), show x.length + 1 - x.length = 1 by omega]; rfl
      rw [hg]
      simp only
      rw [set_mid x _ _ _ hl]
      have e2 : (x ++ relab l (markC d m) :: Row.half d :: y).set (j + 1) (relab l (Row.half d)) = x ++ relab l (markC d m) :: relab l (Row.half d) :: y := by
        have := set_mid (x ++ [relab l (markC d m)]) (Row.half d) (relab l (Row.half d)) y (j := j + 1) (by simp [hl])
        simpa using this
      rw [e2]
      have e3 : relab l (Row.half d) = Row.half (relab l (markC d m)) := by
        have := markC_half d m
        have hlab : (markC d m).lab = d.lab := by unfold markC; split; rfl; split <;> rfl
        have hat : (markC d m).attr = d.attr := by unfold markC; split; rfl; split <;> rfl
        unfold relab Row.half
        simp only [hlab, hat]
      rw [e3]
      exact hx.append (.two (by show (markC d m).kind = 1; rw [markC_kind, hk]) hy)
    · exact absurd h3.1 h0
theorem rmark_whole {r : List Cl} (h : Whole r) (a m l : Int) : Whole (rmark r a m l) := by
  unfold rmark
  split
  · exact h
  · split
    · split
      · rename_i hd
        exact mark1_whole h hd m l
      · exact h
    · exact h
theorem rputI_whole {r : List Cl} (h : Whole r) (i : Int) (c : Cl) (w : Bool) : Whole (rputI r i c w) := by
  unfold rputI; split
  · exact h
  · exact rput_whole h _ _ _
theorem rinsI_whole {r : List Cl} (h : Whole r) (i n : Int) {b : Cl} (hb : b.kind = 0) : Whole (rinsI r i n b) := by
  unfold rinsI
  have h1 := withinN_le i r.length
  have h2 := withinN_le n (r.length - withinN i r.length)
  exact rinsert_whole h hb (by omega)
theorem blank_whole (n : Nat) (a : At) (l : Int) : Whole (List.replicate n (blankOf a l)) := .replicate rfl
/-! What stays whatever is done. -/
structure PW (most : Nat) (p : Pg) : Prop where
  i : PgI Whole p
  last : p.last = 0 ∨ 32 ≤ p.last
  k0 : p.a.base ≤ p.known
  k1 : p.known ≤ 1
  most : p.r.most = most
theorem setG_r' (p : Pg) (g : Gr) : (setG p g).r = p.r := setG_r p g
theorem pushR_most (r : Rg) (x : List Cl) : (pushR r x).most = r.most := by unfold pushR push1; split; rfl; split <;> rfl
theorem upS1_most (p : Pg) (e : Int) : (upS1 p e).r.most = p.r.most := by
  unfold upS1 up1S; simp only; split
  · exact pushR_most _ _
  · rw [setG_r]
theorem upS1_last (p : Pg) (e : Int) : (upS1 p e).last = p.last ∧ (upS1 p e).known = p.known ∧ (upS1 p e).at_ = p.at_ := by
  unfold upS1 up1S; simp only; split
  · exact ⟨setG_last _ _, setG_known _ _, setG_at _ _⟩
  · exact ⟨setG_last _ _, setG_known _ _, setG_at _ _⟩
/-- What of a page printing keeps but for the last rune. -/
structure Kp (p q : Pg) : Prop where
  a : q.a = p.a
  most : q.r.most = p.r.most
  last : q.last = p.last
  known : q.known = p.known
  at_ : q.at_ = p.at_
theorem Kp.rfl' (p : Pg) : Kp p p := ⟨rfl, rfl, rfl, rfl, rfl⟩
theorem Kp.trans {p q r : Pg} (h : Kp p q) (k : Kp q r) : Kp p r := ⟨k.a.trans h.a, k.most.trans h.most, k.last.trans h.last, k.known.trans h.known, k.at_.trans h.at_⟩
theorem Kp.setG (p : Pg) (g : Gr) : Kp p (setG p g) := ⟨setG_a _ _, by rw [setG_r], setG_last _ _, setG_known _ _, setG_at _ _⟩
theorem Kp.up (p : Pg) (e : Int) : Kp p (upS1 p e) := ⟨upS1_a _ _, upS1_most _ _, (upS1_last p e).1, (upS1_last p e).2.1, (upS1_last p e).2.2⟩
theorem Kp.next (p : Pg) (e : Int) : Kp p (nextS p e) := by
  unfold nextS; split
  · have := Kp.up p e
    exact ⟨this.a, this.most, this.last, this.known, this.at_⟩
  · exact ⟨rfl, rfl, rfl, rfl, rfl⟩
theorem Kp.step2 (p : Pg) (e : Int) (wr : Bool) : Kp p (step2 p e wr) := by unfold Cx.step2; split; exact Kp.next _ _; exact .rfl' _
theorem Kp.step3 (p : Pg) (w e : Int) (wr : Bool) : Kp p (step3 p w e wr) := by unfold Cx.step3; split; exact Kp.next _ _; exact .rfl' _
theorem Kp.step4 (p : Pg) (w : Int) : Kp p (step4 p w) := by unfold Cx.step4; split; exact ⟨rfl, rfl, rfl, rfl, rfl⟩; exact .rfl' _
theorem Kp.step5 (p : Pg) (w e : Int) : Kp p (step5 p w e) := by unfold Cx.step5; split; exact Kp.setG _ _; exact .rfl' _
theorem Kp.ready (p : Pg) (w e : Int) : Kp p (readyS p w e) := (((Kp.step2 p e _).trans (Kp.step3 _ w e _)).trans (Kp.step4 _ w)).trans (Kp.step5 _ w e)
theorem Kp.put (p : Pg) (r w e : Int) : Kp p (putR p r w e) := by
  unfold putR
  have := Kp.setG p (atG (shG p) p.c.row p.c.col fun x => rputI x p.c.col ⟨r, 0, 0, 0, p.at_, e⟩ (decide (w > 1)))
  exact ⟨this.a, this.most, this.last, this.known, this.at_⟩
theorem raiseR_whole {r : List Cl} (h : Whole r) (l : Int) : Whole (raiseR r l) := relabel_whole h
theorem touchS_most (p : Pg) (l : Int) : (touchS p l).r.most = p.r.most ∧ (touchS p l).last = p.last := by
  unfold touchS; split
  · exact ⟨rfl, rfl⟩
  · exact ⟨rfl, setG_last _ _⟩
theorem PW.touch {m : Nat} {p : Pg} (h : PW m p) (l : Int) : PW m (touchS p l) := by
  have hi := h.i.touch l fun _ _ hr => raiseR_whole hr _
  have ht := touchS_most p l
  refine ⟨hi, by rw [ht.2]; exact h.last, ?_, ?_, by rw [ht.1]; exact h.most⟩
  · rw [touchS_a]
    unfold touchS; split
    · exact h.k0
    · show p.a.base ≤ join2 p.known _
      have h1 := h.i.a.l2
      have h2 := h.k0
      have h3 := (join2_01 p.known (join2 p.c.lab l)).1
      by_cases h4 : 0 < p.a.base
      · unfold join2
        rw [if_pos (.inl (by omega))]; omega
      · omega
  · unfold touchS; split
    · exact h.k1
    · exact (join2_01 _ _).2
theorem penR_w {p : Pg} (ha : p.a.ok) {r w : Int} (hr : 32 ≤ r) (hw : 1 ≤ w) (hw2 : w ≤ 2) : 1 ≤ (penR p r w).2 ∧ (penR p r w).2 ≤ 2 ∧ 32 ≤ (penR p r w).1 := by
  unfold penR; split
  · exact ⟨by show (1 : Int) ≤ 1; omega, by show (1 : Int) ≤ 2; omega, by show (32 : Int) ≤ 65533; omega⟩
  · exact ⟨hw, hw2, hr⟩
theorem PgI.ready {Q : List Cl → Prop} {p : Pg} (h : PgI Q p) (w e : Int) (hb : ∀ (n : Nat) (a : At), Q (List.replicate n (blankOf a e))) (hi : ∀ r (a : At) j, Q r → Q (rinsI r j w (blankOf a e))) : PgF Q (readyS p w e) :=
  ((((h.step2 e _ (hb _ _)).step3 w e _ (hb _ _)).step4 w).step5 w e fun r _ hr => hi r _ _ hr)
theorem PW.rune {m : Nat} {p : Pg} (h : PW m p) {r by_ : Int} (hr : -2147483648 ≤ r) (h0 : 0 ≤ by_) (h1 : by_ ≤ 1) : PW m (runeS p r by_) := by
  unfold runeS
  split
  · exact h
  · rename_i hw
    have ht := h.touch by_
    simp only
    generalize touchS p by_ = p1 at ht
    generalize join2 p.c.lab by_ = e
    split
    · have hm := ht.i.mark r e fun x j hx => rmark_whole hx _ _ _
      have hk : Kp p1 (markS p1 r e) := Kp.setG _ _
      exact ⟨hm, by rw [hk.last]; exact ht.last, by rw [hk.a, hk.known]; exact ht.k0, by rw [hk.known]; exact ht.k1, by rw [hk.most]; exact ht.most⟩
    · rename_i hw0
      have hc := wOf_cases r
      have hp := penR_w ht.i.a (wOf_shown hr (by omega)) (show 1 ≤ wOf r by omega) (by omega)
      generalize penR p1 r (wOf r) = rw at hp
      obtain ⟨r', w'⟩ := rw
      have hrd := ht.i.ready w' e (fun n a => blank_whole n a e) fun r a j hr => rinsI_whole hr j w' rfl
      have hpu := hrd.putR r' w' e fun x _ hx => rputI_whole hx _ _ _
      have hk := (Kp.ready p1 w' e).trans (Kp.put (readyS p1 w' e) r' w' e)
      simp only
      generalize putR (readyS p1 w' e) r' w' e = p3 at hpu hk
      have hb := hpu.a.l1
      have hb2 := hpu.a.l2
      refine ⟨⟨⟨hpu.ok.r⟩, hpu.a, hpu.t, hpu.c, hpu.g0, hpu.g1⟩, .inr hp.2.2, ?_, (join2_01 _ _).2, by show p3.r.most = m; rw [hk.most]; exact ht.most⟩
      show p3.a.base ≤ join2 by_ p3.a.base
      unfold join2; split <;> omega
theorem PW.runes {m : Nat} {p : Pg} (h : PW m p) {by_ : Int} (h0 : 0 ≤ by_) (h1 : by_ ≤ 1) {l : List Int} (hl : ∀ r ∈ l, -2147483648 ≤ r) : PW m (runesS p by_ l) := by
  induction l generalizing p with
  | nil => exact h
  | cons r l ih => exact ih (h.rune (hl r (by simp)) h0 h1) fun r hr => hl r (by simp [hr])
theorem PW.repeat {m : Nat} {p : Pg} (h : PW m p) (n : Int) {by_ : Int} (h0 : 0 ≤ by_) (h1 : by_ ≤ 1) : PW m (repeatS p n by_) := by
  unfold repeatS
  have ht := h.touch (join2 by_ p.known)
  simp only
  split
  · exact ht
  · have j := join2_01 by_ p.known
    refine ht.runes j.1 j.2 fun r hr => ?_
    rw [(List.mem_replicate.1 hr).2]
    rcases h.last with h2 | h2 <;> omega
end Go.Cx
namespace Go.Cx
open Go.Proofs Go.Row
set_option maxRecDepth 100000
set_option maxHeartbeats 8000000
/-! ### What else is done to a page -/
theorem gotoS_inn {a : Ar} (ha : a.ok) (r k : Int) : (gotoS a r k).inn a := by
  have h1 := ha.r1
  have h2 := ha.c1
  have h3 := ha.t
  have h4 := ha.b
  have h5 := ha.tb
  have h6 := ha.l2
  unfold gotoS
  have b1 : 0 ≤ rowS a r ∧ rowS a r < a.rows := by
    unfold rowS wi
    split <;> omega
  have b2 : 0 ≤ wi k 1 a.cols - 1 ∧ wi k 1 a.cols - 1 < a.cols := by unfold wi; omega
  exact ⟨b1.1, b1.2, b2.1, b2.2, Int.le_refl _, h6, fun h => by cases h⟩
theorem PW.cur {m : Nat} {p : Pg} (h : PW m p) {c : Cu} (hc : c.inn p.a) : PW m { p with c := c } := ⟨h.i.cur hc, h.last, h.k0, h.k1, h.most⟩
theorem PW.place {m : Nat} {p : Pg} (h : PW m p) {c : Cu} (hc : c.wrap = true → c.col = p.a.cols - 1) : PW m { p with c := withinS p.a c } := h.cur (withinS_inn h.i.a hc)
theorem PW.attr {m : Nat} {p : Pg} (h : PW m p) (a : At) : PW m { p with at_ := a } := ⟨⟨⟨h.i.ok.r⟩, h.i.a, h.i.t, h.i.c, h.i.g0, h.i.g1⟩, h.last, h.k0, h.k1, h.most⟩
theorem PW.setG {m : Nat} {p : Pg} (h : PW m p) {g : Gr} (hg : GrI Whole g p.a.rows p.a.cols) : PW m (setG p g) := by
  have k := Kp.setG p g
  exact ⟨h.i.setG hg, by rw [k.last]; exact h.last, by rw [k.a, k.known]; exact h.k0, by rw [k.known]; exact h.k1, by rw [k.most]; exact h.most⟩
theorem PW.put {m : Nat} {p : Pg} (h : PW m p) (i j : Int) (c : Cl) (w : Bool) : PW m (Cx.setG p (atG (shG p) i j fun r => rputI r j c w)) :=
  h.setG (h.i.sh.at i j (fun _ => rputI_len _ _ _ _) fun _ _ hr => rputI_whole hr _ _ _)
theorem PW.mode {m : Nat} {p : Pg} (h : PW m p) (on : Bool) (x : Md) : PW m (pModeS p on x) := by
  unfold pModeS
  split
  · have ha : Ar.ok { p.a with org := on } := ⟨h.i.a.r1, h.i.a.r2, h.i.a.c1, h.i.a.c2, h.i.a.t, h.i.a.b, h.i.a.tb, h.i.a.l1, h.i.a.l2⟩
    exact ⟨⟨⟨h.i.ok.r⟩, ha, h.i.t, gotoS_inn ha 1 1, h.i.g0, h.i.g1⟩, h.last, h.k0, h.k1, h.most⟩
  · exact ⟨⟨⟨h.i.ok.r⟩, h.i.a, h.i.t, h.i.c, h.i.g0, h.i.g1⟩, h.last, h.k0, h.k1, h.most⟩
theorem marginsS_eq (a : Ar) (t b : Int) : (marginsS a t b).1.rows = a.rows ∧ (marginsS a t b).1.cols = a.cols ∧ (marginsS a t b).1.base = a.base := by
  unfold marginsS
  generalize (if b < 1 then a.rows else b) = x
  split <;> exact ⟨rfl, rfl, rfl⟩
theorem PW.margins {m : Nat} {p : Pg} (h : PW m p) (t b : Int) : PW m (pMarginsS p t b) := by
  unfold pMarginsS
  split
  · have ha := marginsS_ok h.i.a t b
    obtain ⟨e1, e2, e3⟩ := marginsS_eq p.a t b
    refine ⟨⟨⟨h.i.ok.r⟩, ha, h.i.t, gotoS_inn ha 1 1, ?_, ?_⟩, h.last, by show (marginsS p.a t b).1.base ≤ p.known; rw [e3]; exact h.k0, h.k1, h.most⟩
    · show GrI Whole p.g0 (marginsS p.a t b).1.rows (marginsS p.a t b).1.cols
      rw [e1, e2]; exact h.i.g0
    · show GrI Whole p.g1 (marginsS p.a t b).1.rows (marginsS p.a t b).1.cols
      rw [e1, e2]; exact h.i.g1
  · exact h
theorem setN_ok {w : Nat → Nat} (h : okW w) (a n : Nat) : okW (setN w a n) := by
  induction n generalizing w a with
  | zero => exact h
  | succ n ih => exact ih (sett_ok h a) (a + 8)
theorem clrN_ok {w : Nat → Nat} (h : okW w) (a n : Nat) : okW (clrN w a n) := by
  induction n generalizing w a with
  | zero => exact h
  | succ n ih => exact ih (clr_ok h a) (a + 1)
theorem Tb.resize_ok {t : Tb} (h : t.ok) (n : Int) : (t.resize n).ok := by
  unfold Tb.resize
  exact ⟨by show (0 : Int) ≤ (clampN n : Nat); omega, by show ((clampN n : Nat) : Int) ≤ 512; unfold clampN; omega, setN_ok (clrN_ok h.w _ _) _ _⟩
theorem PW.resize {m : Nat} {p : Pg} (h : PW m p) {R C : Nat} (hm : mayB R C = true) : PW m (pResS p R C) := by
  have hmm := of_decide_eq_true hm
  have ha := resizeS_ok h.i.a R C
  have e1 : (resizeS p.a R C).rows = R := by show wi (R : Int) 1 512 = R; unfold wi; omega
  have e2 : (resizeS p.a R C).cols = C := by show wi (C : Int) 1 512 = C; unfold wi; omega
  have hq : ∀ (b : Cl), b.kind = 0 → ∀ r, Whole r → Whole (rresize r C b) := fun b hb r hr => rresize_whole hr hb C
  have hg0 := h.i.g0.resize hm (b := zB p.a.base) (hq _ rfl) (.replicate rfl)
  have hg1 := h.i.g1.resize hm (b := zB p.a.base) (hq _ rfl) (.replicate rfl)
  unfold pResS
  refine ⟨⟨⟨h.i.ok.r⟩, ha, Tb.resize_ok h.i.t C, withinS_stop ha _, ?_, ?_⟩, h.last, h.k0, h.k1, h.most⟩
  · show GrI Whole _ (resizeS p.a R C).rows (resizeS p.a R C).cols
    rw [e1, e2]; exact hg0
  · show GrI Whole _ (resizeS p.a R C).rows (resizeS p.a R C).cols
    rw [e1, e2]; exact hg1
theorem newP_pw (n C : Nat) (hm : mayB (n + 1 : Nat) C = true) {l : Int} (h0 : 0 ≤ l) (h1 : l ≤ 1) (most : Nat) (hmo : most ≤ 1000) : PW most (newP n C l most) := by
  have hmm := of_decide_eq_true hm
  have ha := newS_ok (n + 1) C h0 h1
  have e1 : (newS (n + 1 : Nat) C l).rows = (n + 1 : Nat) := by show wi ((n + 1 : Nat) : Int) 1 512 = _; unfold wi; omega
  have e2 : (newS (n + 1 : Nat) C l).cols = C := by show wi (C : Int) 1 512 = _; unfold wi; omega
  refine ⟨⟨newP_ok n C l most hmo, ha, Tb.resize_ok ⟨Int.le_refl _, by show (0 : Int) ≤ 512; omega, fun i => by show 0 < 2 ^ 64; decide⟩ C, gotoS_inn ha 1 1, ?_, ?_⟩, .inl rfl, Int.le_refl _, h1, rfl⟩
  · show GrI Whole _ (newS (n + 1 : Nat) C l).rows (newS (n + 1 : Nat) C l).cols
    rw [e1, e2]; exact GrI.new hm (.replicate rfl)
  · show GrI Whole _ (newS (n + 1 : Nat) C l).rows (newS (n + 1 : Nat) C l).cols
    rw [e1, e2]; exact GrI.new hm (.replicate rfl)
theorem Sp.by01 (s : Sp) : 0 ≤ s.by_ ∧ s.by_ ≤ 1 := by unfold Sp.by_; split <;> omega
end Go.Cx
namespace Go.Cx
open Go.Proofs Go.Row
set_option maxRecDepth 100000
set_option maxHeartbeats 16000000
/-! ### A step -/
theorem beqF {a b : Int} (h : ¬ a = b) : (a == b) = false := beq_eq_false_iff_ne.2 h
theorem beqT {a b : Int} (h : a = b) : (a == b) = true := beq_iff_eq.2 h
def DoesK (m : Nat) (p : Pg) (s : Sp) : Prop := ∃ p', PW m p' ∧ Eff Tryz.prog 30 [s.v, .ptr 0 0] (pgB p) (pgB p') (.tup [])
theorem pg_len (p : Pg) : (pgB p).length = 7 := rfl
theorem does8 {m : Nat} {p : Pg} (h : PW m p) (s : Sp) (hw : s.what.tmod 16 = 8) : DoesK m p s := by
  have hgo := goto_fn p.a h.i.a (IntKind.i64.wrap (s.a.tmod 9)) (IntKind.i64.wrap (s.b.tmod 11))
  have ok := h.i.ok
  cases hh : s.high with
  | true =>
    obtain ⟨c, hc⟩ : ∃ c : Cu, c = ⟨rowS p.a (IntKind.i64.wrap (s.a.tmod 9)), wi (IntKind.i64.wrap (s.b.tmod 11)) 1 p.a.cols - 1, false, if p.c.lab > p.a.base then p.c.lab else p.a.base⟩ := ⟨_, rfl⟩
    refine ⟨{ p with c := withinS p.a c }, h.place (by subst hc; exact fun h => by cases h), ?_⟩
    refine Eff.of rfl rfl (pgB_ok p ok) (pgB_ok _ ⟨ok.r⟩) (Nat.le_refl _) (Sem.of_body tysOk md0 Tryz.func30 rfl rfl ?_)
    refine BCase.yes (beqT hw) ?_
    refine DrawP.intro tysOk mixed false ?_
    refine ⟨_, (pArea p ok).hereR [0, 1, 2, 3, 4, 5, 6] [_] 8 rfl rfl rfl, ?_⟩
    refine ⟨_, hgo.callT _ _, ?_⟩
    refine ⟨by kernel_rfl, ?_⟩
    refine BCase.yes hh ?_
    refine DrawP.intro tysOk mixed false ?_
    refine ⟨_, (pCursor p ok).hereR [0, 1, 2, 3, 4, 5, 6] [_, _] 9 rfl rfl rfl, ?_⟩
    refine ⟨by kernel_rfl, ?_⟩
    subst hc
    refine (pPlace p ok h.i.a ⟨rowS p.a (IntKind.i64.wrap (s.a.tmod 9)), wi (IntKind.i64.wrap (s.b.tmod 11)) 1 p.a.cols - 1, false, if p.c.lab > p.a.base then p.c.lab else p.a.base⟩).here rfl [_, _] rfl ?_
    exact ⟨rfl, Nat.le_of_ble_eq_true rfl, .inl rfl, .inl rfl, .inl rfl, .inl rfl, .inl rfl, .inl rfl, .inl rfl, trivial⟩
  | false =>
    obtain ⟨c, hc⟩ : ∃ c : Cu, c = ⟨rowS p.a (IntKind.i64.wrap (s.a.tmod 9)), wi (IntKind.i64.wrap (s.b.tmod 11)) 1 p.a.cols - 1, false, p.a.base⟩ := ⟨_, rfl⟩
    refine ⟨{ p with c := withinS p.a c }, h.place (by subst hc; exact fun h => by cases h), ?_⟩
    refine Eff.of rfl rfl (pgB_ok p ok) (pgB_ok _ ⟨ok.r⟩) (Nat.le_refl _) (Sem.of_body tysOk md0 Tryz.func30 rfl rfl ?_)
    refine BCase.yes (beqT hw) ?_
    refine DrawP.intro tysOk mixed false ?_
    refine ⟨_, (pArea p ok).hereR [0, 1, 2, 3, 4, 5, 6] [_] 8 rfl rfl rfl, ?_⟩
    refine ⟨_, hgo.callT _ _, ?_⟩
    refine ⟨by kernel_rfl, ?_⟩
    refine BCase.no hh ?_
    subst hc
    refine (pPlace p ok h.i.a ⟨rowS p.a (IntKind.i64.wrap (s.a.tmod 9)), wi (IntKind.i64.wrap (s.b.tmod 11)) 1 p.a.cols - 1, false, p.a.base⟩).here rfl [_, _] rfl ?_
    exact ⟨rfl, Nat.le_of_ble_eq_true rfl, .inl rfl, .inl rfl, .inl rfl, .inl rfl, .inl rfl, .inl rfl, .inl rfl, trivial⟩
theorem does9 {m : Nat} {p : Pg} (h : PW m p) (s : Sp) (hs : s.ok) (hw : s.what.tmod 16 = 9) : DoesK m p s := by
  have ok := h.i.ok
  obtain ⟨x, on, hm⟩ := modeF s hs
  · refine ⟨pModeS p on x, h.mode on x, ?_⟩
    refine Eff.of rfl rfl (pgB_ok p ok) (pgB_ok _ (h.mode on x).i.ok) (by unfold pModeS; split <;> exact Nat.le_refl _) (Sem.of_body tysOk md0 Tryz.func30 rfl rfl ?_)
    refine BCase.no (beqF (by omega)) ?_
    refine BCase.yes (beqT hw) ?_
    refine hm.sem _ ?_
    refine (pMode p ok h.i.a on x).here (by unfold pModeS; split <;> rfl) [_, _] rfl ?_
    exact ⟨rfl, Nat.le_of_ble_eq_true rfl, .inl rfl, .inl rfl, .inl rfl, .inl rfl, .inl rfl, .inl rfl, .inl rfl, trivial⟩
theorem does10 {m : Nat} {p : Pg} (h : PW m p) (s : Sp) (hs : s.ok) (hw : s.what.tmod 16 = 10) : DoesK m p s := by
  have ok := h.i.ok
  · refine ⟨pMarginsS p (IntKind.i64.wrap (s.a.tmod 8)) (IntKind.i64.wrap (s.b.tmod 8)), h.margins _ _, ?_⟩
    refine Eff.of rfl rfl (pgB_ok p ok) (pgB_ok _ (h.margins _ _).i.ok) (by unfold pMarginsS; split <;> exact Nat.le_refl _) (Sem.of_body tysOk md0 Tryz.func30 rfl rfl ?_)
    refine BCase.no (beqF (by omega)) ?_
    refine BCase.no (beqF (by omega)) ?_
    refine BCase.yes (beqT hw) ?_
    refine (pMargins p ok h.i.a _ _).here (by unfold pMarginsS; split <;> rfl) [_] rfl ?_
    exact ⟨rfl, Nat.le_of_ble_eq_true rfl, .inl rfl, .inl rfl, .inl rfl, .inl rfl, .inl rfl, .inl rfl, .inl rfl, trivial⟩
theorem does11 {m : Nat} {p : Pg} (h : PW m p) (s : Sp) (hs : s.ok) (hw : s.what.tmod 16 = 11) : DoesK m p s := by
  have ok := h.i.ok
  obtain ⟨a, ha⟩ := attrF s.d
  · refine ⟨{ p with at_ := a }, h.attr a, ?_⟩
    refine Eff.of rfl rfl (pgB_ok p ok) (pgB_ok _ ⟨ok.r⟩) (Nat.le_refl _) (Sem.of_body tysOk md0 Tryz.func30 rfl rfl ?_)
    refine BCase.no (beqF (by omega)) ?_
    refine BCase.no (beqF (by omega)) ?_
    refine BCase.no (beqF (by omega)) ?_
    refine BCase.yes (beqT hw) ?_
    refine ha.sem _ ?_
    refine (pSetAttr p ok a).here rfl [_] rfl ?_
    exact ⟨rfl, Nat.le_of_ble_eq_true rfl, .inl rfl, .inl rfl, .inl rfl, .inl rfl, .inl rfl, .inl rfl, .inl rfl, trivial⟩
theorem does12 {m : Nat} {p : Pg} (h : PW m p) (s : Sp) (hs : s.ok) (hw : s.what.tmod 16 = 12) : DoesK m p s := by
  have ok := h.i.ok
  have hby := byF s
  have h01 := s.by01
  · refine ⟨repeatS p (IntKind.i64.wrap (IntKind.i64.wrap s.a - 2)) s.by_, h.repeat _ h01.1 h01.2, ?_⟩
    have hr := pRepeat p h.i.good (IntKind.i64.wrap (IntKind.i64.wrap s.a - 2)) s.by_
    have hq := (h.repeat (IntKind.i64.wrap (IntKind.i64.wrap s.a - 2)) h01.1 h01.2).i.ok
    generalize repeatS p (IntKind.i64.wrap (IntKind.i64.wrap s.a - 2)) s.by_ = q at hr hq ⊢
    refine Eff.of rfl rfl (pgB_ok p ok) (pgB_ok _ hq) (Nat.le_refl _) (Sem.of_body tysOk md0 Tryz.func30 rfl rfl ?_)
    refine BCase.no (beqF (by omega)) ?_
    refine BCase.no (beqF (by omega)) ?_
    refine BCase.no (beqF (by omega)) ?_
    refine BCase.no (beqF (by omega)) ?_
    refine BCase.yes (beqT hw) ?_
    refine DrawP.intro tysOk mixed false ?_
    refine ⟨_, hby.callT _ _, ?_⟩
    obtain ⟨a, c, g0, g1, ⟨lines, first, most, lab, ver, ge, gs, gh⟩, room, t, mm, at_, last, known⟩ := q
    cases lines
    all_goals
      refine ⟨_, hr.hereT rfl [0, 1, 2, 3, 4, 5, 6] [_] 8 rfl rfl rfl, ?_⟩
      refine ⟨by kernel_rfl, ?_⟩
      exact ⟨rfl, Nat.le_of_ble_eq_true rfl, .inl rfl, .inl rfl, .inl rfl, .inl rfl, .inl rfl, .inl rfl, .inl rfl, trivial⟩
theorem does13 {m : Nat} {p : Pg} (h : PW m p) (s : Sp) (hs : s.ok) (hw : s.what.tmod 16 = 13) : DoesK m p s := by
  have ok := h.i.ok
  have hby := byF s
  have ht := pTouch p ok h.i.sh.ok s.by_
  have h1 := h.touch s.by_
  · refine ⟨setG (touchS p s.by_) (atG (shG (touchS p s.by_)) (IntKind.i64.wrap (s.a.tmod 8)) (IntKind.i64.wrap (s.b.tmod 10)) fun r => rputI r (IntKind.i64.wrap (s.b.tmod 10)) ⟨IntKind.i32.wrap (19968 + IntKind.i32.wrap (s.b.tmod 5)), 0, 0, 0, at0, join2 p.c.lab s.by_⟩ (IntKind.i32.wrap (BitVec.ofInt IntKind.i32.bits s.r &&& BitVec.ofInt IntKind.i32.bits 1).toNat == 1)), h1.put _ _ _ _, ?_⟩
    have h2 := (h1.put (IntKind.i64.wrap (s.a.tmod 8)) (IntKind.i64.wrap (s.b.tmod 10)) ⟨IntKind.i32.wrap (19968 + IntKind.i32.wrap (s.b.tmod 5)), 0, 0, 0, at0, join2 p.c.lab s.by_⟩ (IntKind.i32.wrap (BitVec.ofInt IntKind.i32.bits s.r &&& BitVec.ofInt IntKind.i32.bits 1).toNat == 1)).i.ok
    generalize touchS p s.by_ = p1 at ht h1 h2 ⊢
    refine Eff.of rfl rfl (pgB_ok p ok) (pgB_ok _ h2) (by unfold setG; split <;> exact Nat.le_refl _) (Sem.of_body tysOk md0 Tryz.func30 rfl rfl ?_)
    refine BCase.no (beqF (by omega)) ?_
    refine BCase.no (beqF (by omega)) ?_
    refine BCase.no (beqF (by omega)) ?_
    refine BCase.no (beqF (by omega)) ?_
    refine BCase.no (beqF (by omega)) ?_
    refine BCase.yes (beqT hw) ?_
    refine hby.sem _ ?_
    refine ht.here rfl [_] rfl ?_
    refine (pPut p1 h1.i.ok h1.i.sh.ok _ _ ⟨_, 0, 0, 0, at0, _⟩ _).here (by unfold setG; split <;> rfl) [_] rfl ?_
    exact ⟨rfl, Nat.le_of_ble_eq_true rfl, .inl rfl, .inl rfl, .inl rfl, .inl rfl, .inl rfl, .inl rfl, .inl rfl, trivial⟩
theorem does14 {m : Nat} {p : Pg} (h : PW m p) (s : Sp) (hs : s.ok) (hw : s.what.tmod 16 = 14) : DoesK m p s := by
  have ok := h.i.ok
  have hsz := sizeF hs.a hs.b
  have hm : mayB ((s.a % 7).toNat + 1 : Nat) ((s.b % 9).toNat + 1 : Nat) = true := decide_eq_true (by omega)
  · refine ⟨pResS p ((s.a % 7).toNat + 1) ((s.b % 9).toNat + 1), h.resize hm, ?_⟩
    have hr := pResize p ok ⟨h.i.g0.ok, h.i.g1.ok⟩ h.i.a h.i.t _ _ hm
    have hq := (h.resize hm).i.ok
    generalize pResS p ((s.a % 7).toNat + 1) ((s.b % 9).toNat + 1) = q at hr hq ⊢
    refine Eff.of rfl rfl (pgB_ok p ok) (pgB_ok _ hq) (Nat.le_refl _) (Sem.of_body tysOk md0 Tryz.func30 rfl rfl ?_)
    refine BCase.no (beqF (by omega)) ?_
    refine BCase.no (beqF (by omega)) ?_
    refine BCase.no (beqF (by omega)) ?_
    refine BCase.no (beqF (by omega)) ?_
    refine BCase.no (beqF (by omega)) ?_
    refine BCase.no (beqF (by omega)) ?_
    refine BCase.yes (beqT hw) ?_
    refine hsz.sem _ ?_
    refine hr.here rfl [_] rfl ?_
    exact ⟨rfl, Nat.le_of_ble_eq_true rfl, .inl rfl, .inl rfl, .inl rfl, .inl rfl, .inl rfl, .inl rfl, .inl rfl, trivial⟩
theorem does15 {m : Nat} {p : Pg} (h : PW m p) (s : Sp) (hs : s.ok) (hw : s.what.tmod 16 = 15) : DoesK m p s := by
  have ok := h.i.ok
  have hby := byF s
  have ht := pTouch p ok h.i.sh.ok s.by_
  have h1 := h.touch s.by_
  · refine ⟨touchS p s.by_, h1, ?_⟩
    generalize touchS p s.by_ = p1 at ht h1 ⊢
    refine Eff.of rfl rfl (pgB_ok p ok) (pgB_ok _ h1.i.ok) (Nat.le_refl _) (Sem.of_body tysOk md0 Tryz.func30 rfl rfl ?_)
    refine BCase.no (beqF (by omega)) ?_
    refine BCase.no (beqF (by omega)) ?_
    refine BCase.no (beqF (by omega)) ?_
    refine BCase.no (beqF (by omega)) ?_
    refine BCase.no (beqF (by omega)) ?_
    refine BCase.no (beqF (by omega)) ?_
    refine BCase.no (beqF (by omega)) ?_
    refine BCase.yes (beqT hw) ?_
    refine hby.sem _ ?_
    refine ht.here rfl [_] rfl ?_
    exact ⟨rfl, Nat.le_of_ble_eq_true rfl, .inl rfl, .inl rfl, .inl rfl, .inl rfl, .inl rfl, .inl rfl, .inl rfl, trivial⟩
theorem doesR {m : Nat} {p : Pg} (h : PW m p) (s : Sp) (hs : s.ok) (hw : ¬ (8 ≤ s.what.tmod 16 ∧ s.what.tmod 16 ≤ 15)) : DoesK m p s := by
  have ok := h.i.ok
  have hby := byF s
  have h01 := s.by01
  obtain ⟨r, hr1, hr⟩ := runeF s hs
  · have h1 := h.rune (r := r) hr1 h01.1 h01.2
    refine ⟨runeS p r s.by_, h1, ?_⟩
    have hp := pRune p h.i.good r s.by_
    generalize runeS p r s.by_ = q at hp h1 ⊢
    have hq := h1.i.ok
    refine Eff.of rfl rfl (pgB_ok p ok) (pgB_ok _ hq) (Nat.le_refl _) (Sem.of_body tysOk md0 Tryz.func30 rfl rfl ?_)
    refine BCase.no (beqF (by omega)) ?_
    refine BCase.no (beqF (by omega)) ?_
    refine BCase.no (beqF (by omega)) ?_
    refine BCase.no (beqF (by omega)) ?_
    refine BCase.no (beqF (by omega)) ?_
    refine BCase.no (beqF (by omega)) ?_
    refine BCase.no (beqF (by omega)) ?_
    refine BCase.no (beqF (by omega)) ?_
    refine DrawP.intro tysOk mixed false ?_
    refine ⟨_, hr.callT _ _, ?_⟩
    refine ⟨_, hby.callT _ _, ?_⟩
    obtain ⟨a, c, g0, g1, ⟨lines, first, most, lab, ver, ge, gs, gh⟩, room, t, mm, at_, last, known⟩ := q
    cases lines
    all_goals
      refine ⟨_, hp.hereT rfl [0, 1, 2, 3, 4, 5, 6] [_] 8 rfl rfl rfl, ?_⟩
      refine ⟨by kernel_rfl, ?_⟩
      exact ⟨rfl, Nat.le_of_ble_eq_true rfl, .inl rfl, .inl rfl, .inl rfl, .inl rfl, .inl rfl, .inl rfl, .inl rfl, trivial⟩
theorem doesF {m : Nat} {p : Pg} (h : PW m p) (s : Sp) (hs : s.ok) : DoesK m p s := by
  by_cases h8 : s.what.tmod 16 = 8
  · exact does8 h s h8
  by_cases h9 : s.what.tmod 16 = 9
  · exact does9 h s hs h9
  by_cases h10 : s.what.tmod 16 = 10
  · exact does10 h s hs h10
  by_cases h11 : s.what.tmod 16 = 11
  · exact does11 h s hs h11
  by_cases h12 : s.what.tmod 16 = 12
  · exact does12 h s hs h12
  by_cases h13 : s.what.tmod 16 = 13
  · exact does13 h s hs h13
  by_cases h14 : s.what.tmod 16 = 14
  · exact does14 h s hs h14
  by_cases h15 : s.what.tmod 16 = 15
  · exact does15 h s hs h15
  exact doesR h s hs (by omega)
end Go.Cx
namespace Go.Cx
open Go.Proofs Go.Row
set_option maxRecDepth 100000
set_option maxHeartbeats 4000000
/-! ### Whole -/
theorem cl_eq (c d : Cl) : eqV TT 12 46 (Cl.v c) (Cl.v d) = some (decide (c = d)) := by
  obtain ⟨a0, a1, a2, a3, ⟨b0, b1, b2, b3, b4, b5, b6, b7, b8⟩, a4⟩ := c
  obtain ⟨c0, c1, c2, c3, ⟨d0, d1, d2, d3, d4, d5, d6, d7, d8⟩, c4⟩ := d
  show some _ = _
  congr 1
  rw [Bool.eq_iff_iff]
  simp only [decide_eq_true_eq, Cl.mk.injEq, At.mk.injEq]
  simp
  omega
def envW (r : List Cl) (i : Int) : List V := [rowV r, .undef, .bool false, .int .i64 i] ++ List.replicate 35 .undef
theorem rWhole (r : List Cl) (hr : r.length < 1000000) (hw : Whole r) : Fn Tryz.prog 69 [rowV r] (.bool true) := by
  have hl := rowC_len r
  refine Fn.of_body tysOk md0 Tryz.func69 rfl rfl rfl rfl ?_
  refine LoopP.inv (md := md0) (fun k env h => ∃ (i : Nat), k = r.length - i ∧ i ≤ r.length ∧ Whole (r.drop i) ∧ env = envW r i ∧ h = []) r.length ⟨envW r 0, _, .same (by repeat (first | exact trivial | refine ⟨.inl rfl, ?_⟩ | refine ⟨.inr rfl, ?_⟩)) rfl, 0, rfl, Nat.zero_le _, hw, rfl, rfl⟩ ?_
  rintro k _ _ ⟨i, rfl, hi, hw, rfl, rfl⟩
  refine ⟨fun h => ?_, fun h => ?_⟩
  · have hi' : i < r.length := by have := of_decide_eq_true h; omega
    obtain ⟨c, hc⟩ : ∃ c, r[i]? = some c := ⟨_, List.getElem?_eq_getElem hi'⟩
    have hd : r.drop i = c :: r.drop (i + 1) := by
      obtain ⟨q1, q2⟩ := List.getElem?_eq_some_iff.1 hc
      rw [List.drop_eq_getElem_cons q1, q2]
    rw [hd] at hw
    refine ⟨Cl.cs c, ⟨by omega, rowC_get hc⟩, gdP rfl ?_⟩
    rcases hw.inv with ⟨hk, hw'⟩ | ⟨s, hs, hk, hw'⟩
    · refine ⟨fun h1 => ?_, fun h1 => absurd hk (of_decide_eq_false h1)⟩
      refine ⟨r.length - (i + 1), envW r (i + 1 : Nat), _, by omega, .same ?_ rfl, i + 1, rfl, hi', hw', rfl, rfl⟩
      repeat (first | exact trivial | refine ⟨.inl rfl, ?_⟩ | refine ⟨.inl (congrArg (V.int .i64) (wrs i 1 (by omega)).symm), ?_⟩ | refine ⟨.inr rfl, ?_⟩)
    · refine ⟨fun h1 => absurd (of_decide_eq_true h1) (by rw [hk]; decide), fun _ => ?_⟩
      refine ⟨fun _ => ?_, fun h1 => absurd hk (of_decide_eq_false h1)⟩
      refine DrawP.intro tysOk mixed false ?_
      have hlt : i + 1 < r.length := by
        have := congrArg List.length hs
        simp only [List.length_drop, List.length_cons] at this; omega
      have hd1 : r[i + 1]? = some (Row.half c) := by
        rw [List.drop_eq_getElem_cons hlt] at hs
        rw [List.getElem?_eq_getElem hlt, (List.cons.inj hs).1]
      have hw1 : Whole (r.drop (i + 2)) := by
        rw [List.drop_eq_getElem_cons hlt] at hs
        rw [(List.cons.inj hs).2]; exact hw'
      have hwr : IntKind.i64.wrap ((i : Int) + 1) = ((i + 1 : Nat) : Int) := wrs i 1 (by omega)
      refine BCase.no (by rw [hwr, hl, beq_eq_false_iff_ne]; omega) ?_
      repeat (first | refine BCase.yes rfl ?_ | refine BCase.no rfl ?_)
      refine ⟨Cl.cs (Row.half c), ⟨by omega, by rw [hwr, Int.toNat_natCast]; exact rowC_get hd1⟩, gdP rfl ?_⟩
      repeat (first | refine BCase.yes rfl ?_ | refine BCase.no rfl ?_)
      refine ⟨Cl.cs c, ⟨by omega, rowC_get hc⟩, gdP rfl ?_⟩
      repeat (first | refine BCase.yes rfl ?_ | refine BCase.no rfl ?_)
      refine ⟨_, (rHalf c).callT _ _, ?_⟩
      repeat (first | refine BCase.yes rfl ?_ | refine BCase.no rfl ?_)
      refine ⟨by kernel_rfl, ?_⟩
      refine BCase.no (by simp) ?_
      have hw2 : IntKind.i64.wrap (IntKind.i64.wrap ((i : Int) + 1) + 1) = ((i + 2 : Nat) : Int) := by rw [hwr]; exact wrs (i + 1) 1 (by omega)
      refine ⟨r.length - (i + 2), envW r (i + 2 : Nat), _, by omega, .same ?_ rfl, i + 2, rfl, by omega, hw1, rfl, rfl⟩
      repeat (first | exact trivial | refine ⟨.inl rfl, ?_⟩ | refine ⟨.inl (congrArg (V.int .i64) hw2.symm), ?_⟩ | refine ⟨.inr rfl, ?_⟩)
  · rfl
end Go.Cx
namespace Go.Cx
open Go.Proofs Go.Row
set_option maxRecDepth 100000
set_option maxHeartbeats 16000000
/-! ### Is a page right? -/
def hpRg (p : Pg) : Heap := hpOf (pgB p) ++ [some (.cells 55 (Ar.cs p.a)), some (.cells 52 (Cu.cs p.c))]
def envRg (p : Pg) (g : Gr) (q i : Int) : List V := [.ptr 0 0, .undef, .undef, .ptr 7 0, .ptr 8 0, .undef, gridsV g.rows, .int .i64 i, .undef, .undef, .undef, .undef, .undef, .undef, .undef, .undef, .agg [gridsV p.g0.rows, gridsV p.g1.rows], .int .i64 q] ++ List.replicate 72 .undef
theorem rightF {m : Nat} (p : Pg) (h : PW m p) : Eff Tryz.prog 31 [.ptr 0 0] (pgB p) (pgB p) (.bool true) := by
  have ok := h.i.ok
  have hok := pgB_ok p ok
  have hgok : p.gok := ⟨h.i.g0.ok, h.i.g1.ok⟩
  have hb := pBase p ok
  refine Eff.of rfl rfl hok hok (Nat.le_refl _) (Sem.of_body tysOk md0 Tryz.func31 rfl rfl ?_)
  refine (pArea p ok).here rfl [] rfl ?_
  refine (pCursor p ok).here rfl [] rfl ?_
  refine (pCells p ok hgok false).here rfl [_, _] rfl ?_
  refine (pCells p ok hgok true).here rfl [_, _] rfl ?_
  refine LoopP.unroll (md := md0) ?_
  refine BCase.yes rfl ?_
  refine gdP rfl ?_
  have e0 : ((rowsP p.g0.rows).length : Int) = p.a.rows := by rw [rowsP_len]; exact h.i.g0.r
  refine BCase.no (show (((rowsP p.g0.rows).length : Int) != p.a.rows) = false by rw [e0, bne_self_eq_false]) ?_
  refine LoopP.inv (md := md0) (fun k env h => ∃ (i : Nat), k = p.g0.rows.length - i ∧ i ≤ p.g0.rows.length ∧ env = envRg p p.g0 0 i ∧ h = hpRg p) p.g0.rows.length ⟨envRg p p.g0 0 0, _, .same (by repeat (first | exact trivial | refine ⟨.inl rfl, ?_⟩ | refine ⟨.inr rfl, ?_⟩)) rfl, 0, rfl, Nat.zero_le _, rfl, rfl⟩ ?_
  rintro k _ _ ⟨i, rfl, hi, rfl, rfl⟩
  refine ⟨fun hlt => ?_, fun hge => ?_⟩
  · have hlt : (i : Int) < (rowsP p.g0.rows).length := of_decide_eq_true hlt
    rw [rowsP_len] at hlt
    have hi' : i < p.g0.rows.length := by omega
    obtain ⟨r, hr⟩ : ∃ r, p.g0.rows[i]? = some r := ⟨_, List.getElem?_eq_getElem hi'⟩
    have hm := List.mem_of_getElem? hr
    have hrl := h.i.g0.ok.len r hm
    have hrc := h.i.g0.c
    have hc2 := h.i.g0.ok.c2
    have hn2 := h.i.g0.ok.n2
    refine DrawP.intro tysOk mixed false ?_
    have hix : (rowsP p.g0.rows)[(i : Int).toNat]? = some [rowV r] := by rw [Int.toNat_natCast]; exact rowsP_get hr
    refine ⟨_, ⟨by omega, hix⟩, gdP rfl ?_⟩
    have er : (((rowC r).length : Nat) : Int) = p.a.cols := by rw [rowC_len, hrl]; exact hrc
    refine BCase.no (show ((((rowC r).length : Nat) : Int) != p.a.cols) = false by rw [er, bne_self_eq_false]) ?_
    repeat (first | refine BCase.yes rfl ?_ | refine BCase.no rfl ?_)
    refine ⟨_, ⟨by omega, hix⟩, gdP rfl ?_⟩
    repeat (first | refine BCase.yes rfl ?_ | refine BCase.no rfl ?_)
    refine ⟨_, (rWhole r (by omega) (h.i.g0.q r hm)).callT _ _, ?_⟩
    repeat (first | refine BCase.yes rfl ?_ | refine BCase.no rfl ?_)
    refine ⟨by kernel_rfl, ?_⟩
    refine BCase.no rfl ?_
    refine ⟨p.g0.rows.length - (i + 1), envRg p p.g0 0 (i + 1 : Nat), _, by omega, .same ?_ rfl, i + 1, rfl, hi', rfl, rfl⟩
    repeat (first | exact trivial | refine ⟨.inl rfl, ?_⟩ | refine ⟨.inl (congrArg (V.int .i64) (wrs i 1 (by omega)).symm), ?_⟩ | refine ⟨.inr rfl, ?_⟩)
  refine LoopP.unroll (md := md0) ?_
  refine BCase.yes rfl ?_
  refine gdP rfl ?_
  have e1 : ((rowsP p.g1.rows).length : Int) = p.a.rows := by rw [rowsP_len]; exact h.i.g1.r
  refine BCase.no (show (((rowsP p.g1.rows).length : Int) != p.a.rows) = false by rw [e1, bne_self_eq_false]) ?_
  refine LoopP.inv (md := md0) (fun k env h => ∃ (i : Nat), k = p.g1.rows.length - i ∧ i ≤ p.g1.rows.length ∧ env = envRg p p.g1 (IntKind.i64.wrap (0 + 1)) i ∧ h = hpRg p) p.g1.rows.length ⟨envRg p p.g1 (IntKind.i64.wrap (0 + 1)) 0, _, .same (by repeat (first | exact trivial | refine ⟨.inl rfl, ?_⟩ | refine ⟨.inr rfl, ?_⟩)) rfl, 0, rfl, Nat.zero_le _, rfl, rfl⟩ ?_
  rintro k _ _ ⟨i, rfl, hi, rfl, rfl⟩
  refine ⟨fun hlt => ?_, fun hge => ?_⟩
  · have hlt : (i : Int) < (rowsP p.g1.rows).length := of_decide_eq_true hlt
    rw [rowsP_len] at hlt
    have hi' : i < p.g1.rows.length := by omega
    obtain ⟨r, hr⟩ : ∃ r, p.g1.rows[i]? = some r := ⟨_, List.getElem?_eq_getElem hi'⟩
    have hm := List.mem_of_getElem? hr
    have hrl := h.i.g1.ok.len r hm
    have hrc := h.i.g1.c
    have hc2 := h.i.g1.ok.c2
    have hn2 := h.i.g1.ok.n2
    refine DrawP.intro tysOk mixed false ?_
    have hix : (rowsP p.g1.rows)[(i : Int).toNat]? = some [rowV r] := by rw [Int.toNat_natCast]; exact rowsP_get hr
    refine ⟨_, ⟨by omega, hix⟩, gdP rfl ?_⟩
    have er : (((rowC r).length : Nat) : Int) = p.a.cols := by rw [rowC_len, hrl]; exact hrc
    refine BCase.no (show ((((rowC r).length : Nat) : Int) != p.a.cols) = false by rw [er, bne_self_eq_false]) ?_
    repeat (first | refine BCase.yes rfl ?_ | refine BCase.no rfl ?_)
    refine ⟨_, ⟨by omega, hix⟩, gdP rfl ?_⟩
    repeat (first | refine BCase.yes rfl ?_ | refine BCase.no rfl ?_)
    refine ⟨_, (rWhole r (by omega) (h.i.g1.q r hm)).callT _ _, ?_⟩
    repeat (first | refine BCase.yes rfl ?_ | refine BCase.no rfl ?_)
    refine ⟨by kernel_rfl, ?_⟩
    refine BCase.no rfl ?_
    refine ⟨p.g1.rows.length - (i + 1), envRg p p.g1 (IntKind.i64.wrap (0 + 1)) (i + 1 : Nat), _, by omega, .same ?_ rfl, i + 1, rfl, hi', rfl, rfl⟩
    repeat (first | exact trivial | refine ⟨.inl rfl, ?_⟩ | refine ⟨.inl (congrArg (V.int .i64) (wrs i 1 (by omega)).symm), ?_⟩ | refine ⟨.inr rfl, ?_⟩)
  refine LoopP.unroll (md := md0) ?_
  refine BCase.no rfl ?_
  refine DrawP.intro tysOk mixed false ?_
  refine BCase.yes (decide_eq_true h.i.c.r1) ?_
  repeat (first | refine BCase.yes rfl ?_ | refine BCase.no rfl ?_)
  refine BCase.yes (decide_eq_true h.i.c.r2) ?_
  repeat (first | refine BCase.yes rfl ?_ | refine BCase.no rfl ?_)
  refine BCase.yes (decide_eq_true h.i.c.c1) ?_
  repeat (first | refine BCase.yes rfl ?_ | refine BCase.no rfl ?_)
  refine BCase.yes (decide_eq_true h.i.c.c2) ?_
  repeat (first | refine BCase.yes rfl ?_ | refine BCase.no rfl ?_)
  have hcc := h.i.a.c2
  have hcc1 := h.i.a.c1
  have fin : decide (p.c.lab ≥ p.a.base) = true := decide_eq_true h.i.c.l1
  rcases Bool.eq_false_or_eq_true p.c.wrap with hw | hw
  ·
    have he : (p.c.col == IntKind.i64.wrap (p.a.cols - 1)) = true := by rw [wri (by omega) (by omega)]; exact beqT (h.i.c.w hw)
    refine BCase.no (show (!p.c.wrap) = false by rw [hw]; rfl) ?_
    repeat (first | refine BCase.yes rfl ?_ | refine BCase.no rfl ?_)
    refine BCase.yes he ?_
    repeat (first | refine BCase.yes rfl ?_ | refine BCase.no rfl ?_)
    refine ⟨_, hb.hereR [0, 1, 2, 3, 4, 5, 6] [_, _] 9 rfl rfl rfl, ?_⟩
    repeat (first | refine BCase.yes rfl ?_ | refine BCase.no rfl ?_)
    refine ⟨by kernel_rfl, ?_⟩
    rw [fin]
    exact ⟨rfl, Nat.le_of_ble_eq_true rfl, .inl rfl, .inl rfl, .inl rfl, .inl rfl, .inl rfl, .inl rfl, .inl rfl, trivial⟩
  ·
    refine BCase.yes (show (!p.c.wrap) = true by rw [hw]; rfl) ?_
    repeat (first | refine BCase.yes rfl ?_ | refine BCase.no rfl ?_)
    refine ⟨_, hb.hereR [0, 1, 2, 3, 4, 5, 6] [_, _] 9 rfl rfl rfl, ?_⟩
    repeat (first | refine BCase.yes rfl ?_ | refine BCase.no rfl ?_)
    refine ⟨by kernel_rfl, ?_⟩
    rw [fin]
    exact ⟨rfl, Nat.le_of_ble_eq_true rfl, .inl rfl, .inl rfl, .inl rfl, .inl rfl, .inl rfl, .inl rfl, .inl rfl, trivial⟩
end Go.Cx
