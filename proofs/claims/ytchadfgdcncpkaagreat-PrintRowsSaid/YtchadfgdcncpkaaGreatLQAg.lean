/- What functions of this seat compute, each for every argument of the shapes that are named; no condition beside the stated ones. -/
import Derived.Test.YtchadfgdcncpkaaGreatLQ2g
namespace Go.Cx
open Go.Proofs Go.Row
set_option maxRecDepth 100000
set_option maxHeartbeats 4000000
def markC (c : Cl) (m : Int) : Cl := if c.m0 = 0 then { c with m0 := m } else if c.m1 = 0 then { c with m1 := m } else c
def mark1 (r : List Cl) (i : Nat) (c : Cl) (m l : Int) : List Cl := if c.rune = 0 then r else labR (r.set i (markC c m)) i (markC c m) l
def envMA (n : Nat) (i : Int) (m l : Int) : List V := [buf n, .int .i64 i, .int .i32 m, .int .u8 l, .undef, .undef, .undef, .undef, .nils] ++ List.replicate 88 .undef
theorem mkTailA (r : List Cl) (n : Nat) (hn : r.length = n) (hn2 : n < 1000000) (i : Nat) (c : Cl) (hc : r[i]? = some c) (m l : Int) {Q : X → List V → Heap → Prop} (hQ : ∀ env', env'[8]? = some (buf n) → Q .ret env' [some (bufB (mark1 r i c m l))]) :
    Wp Tryz.prog TT (tails codeMk 4) (envMA n i m l) [some (bufB r)] Q := by
  obtain ⟨hi, _⟩ := List.getElem?_eq_some_iff.1 hc
  have hlen := rowF_len r
  have hidx : (decide (0 ≤ (i : Int)) && decide ((i : Int) < n)) = true := by rw [Bool.and_eq_true]; exact ⟨decide_eq_true (by omega), decide_eq_true (by omega)⟩
  have hq : 0 + (i : Int).toNat * 14 = i * 14 := by rw [Nat.zero_add, Int.toNat_natCast]
  refine Wp.seq (Wp.of (md := md0) tysOk ?_)
  refine gdP hidx ?_
  conv => whnf
  refine Wp.seq (Wp.of (md := md0) tysOk ?_)
  refine gdP rfl ?_
  refine ⟨_, ldPart rfl hc (j := 0) rfl hq (by decide) (by decide) rfl, ?_⟩
  refine ⟨fun h1 => ?_, fun h1 => ?_⟩
  · have h1 : c.rune = 0 := of_decide_eq_true h1
    have e : mark1 r i c m l = r := by unfold mark1; rw [if_pos h1]
    rw [e] at hQ
    exact hQ _ rfl
  · have h1 : ¬ c.rune = 0 := of_decide_eq_false h1
    have e : mark1 r i c m l = labR (r.set i (markC c m)) i (markC c m) l := by unfold mark1; rw [if_neg h1]
    rw [e] at hQ
    have fin : ∀ (r2 : List Cl) (c2 : Cl), r2 = r.set i (markC c m) → c2 = markC c m → Wp Tryz.prog TT (tails codeMk 7) (envMB n i (0 + (i : Int).toNat * 14) m l) [some (bufB r2)] Q := fun r2 c2 h2 h3 => by
      subst h2 h3
      exact mkTailB _ n (by rw [List.length_set]; exact hn) hn2 i _ hq _ (by rw [List.getElem?_set_self hi]) m l hQ
    conv => whnf
    refine Wp.seq (Wp.of (md := md0) tysOk ?_)
    refine LoopP.unroll (md := md0) ?_
    refine BCase.yes rfl ?_
    refine gdP rfl ?_
    have hq1 : 0 + (i : Int).toNat * 14 + 1 + 0 * 1 = i * 14 + 1 := by rw [hq]
    have hq2 : 0 + (i : Int).toNat * 14 + 1 + 1 * 1 = i * 14 + 2 := by rw [hq]
    refine ⟨_, ldPart rfl hc (j := 1) rfl hq1 (by decide) (by decide) rfl, ?_⟩
    refine ⟨fun h2 => ?_, fun h2 => ?_⟩
    · have h2 : c.m0 = 0 := of_decide_eq_true h2
      refine gdP ?_ ?_
      · show (true && (true && Nat.ble (0 + (i : Int).toNat * 14 + 1 + 0 * 1 + 1) (rowF r).length)) = true
        rw [hq1, hlen, Nat.ble_eq_true_of_le (by omega)]; rfl
      conv => whnf
      refine Wp.weakT (env' := envMB n i (0 + (i : Int).toNat * 14) m l) (h' := [some (bufB (r.set i { c with m0 := m }))]) ?_ ⟨.inl ?_, trivial⟩ (fin _ { c with m0 := m } ?_ ?_)
      · repeat (first | exact trivial | refine ⟨.inl rfl, ?_⟩ | refine ⟨.inr (.inl rfl), ?_⟩)
      · show _ = some (Blk.grow 0 _ _ (setL (rowF r) (0 + (i : Int).toNat * 14 + 1 + 0 * 1) [.int .i32 m]))
        rw [hq1, rowF_part (c' := { c with m0 := m }) hc (by show 1 + 1 ≤ 14; omega) rfl]; rfl
      · unfold markC; rw [if_pos h2]
      · unfold markC; rw [if_pos h2]
    · have h2 : ¬ c.m0 = 0 := of_decide_eq_false h2
      refine LoopP.unroll (md := md0) ?_
      refine BCase.yes rfl ?_
      refine gdP rfl ?_
      refine ⟨_, ldPart rfl hc (j := 2) rfl hq2 (by decide) (by decide) rfl, ?_⟩
      refine ⟨fun h3 => ?_, fun h3 => ?_⟩
      · have h3 : c.m1 = 0 := of_decide_eq_true h3
        refine gdP ?_ ?_
        · show (true && (true && Nat.ble (0 + (i : Int).toNat * 14 + 1 + 1 * 1 + 1) (rowF r).length)) = true
          rw [hq2, hlen, Nat.ble_eq_true_of_le (by omega)]; rfl
        conv => whnf
        refine Wp.weakT (env' := envMB n i (0 + (i : Int).toNat * 14) m l) (h' := [some (bufB (r.set i { c with m1 := m }))]) ?_ ⟨.inl ?_, trivial⟩ (fin _ { c with m1 := m } ?_ ?_)
        · repeat (first | exact trivial | refine ⟨.inl rfl, ?_⟩ | refine ⟨.inr (.inl rfl), ?_⟩)
        · show _ = some (Blk.grow 0 _ _ (setL (rowF r) (0 + (i : Int).toNat * 14 + 1 + 1 * 1) [.int .i32 m]))
          rw [hq2, rowF_part (c' := { c with m1 := m }) hc (by show 2 + 1 ≤ 14; omega) rfl]; rfl
        · unfold markC; rw [if_neg h2, if_pos h3]
        · unfold markC; rw [if_neg h2, if_pos h3]
      · have h3 : ¬ c.m1 = 0 := of_decide_eq_false h3
        refine LoopP.unroll (md := md0) ?_
        refine BCase.no rfl ?_
        conv => whnf
        have hmc : markC c m = c := by unfold markC; rw [if_neg h2, if_neg h3]
        have hset : r.set i c = r := by
          obtain ⟨q1, q2⟩ := List.getElem?_eq_some_iff.1 hc
          rw [← q2, List.set_getElem_self]
        refine Wp.weakT (env' := envMB n i (0 + (i : Int).toNat * 14) m l) (h' := [some (bufB r)]) ?_ ⟨.inl rfl, trivial⟩ (fin _ c (by rw [hmc, hset]) hmc.symm)
        repeat (first | exact trivial | refine ⟨.inl rfl, ?_⟩ | refine ⟨.inr (.inl rfl), ?_⟩)
def idxM (r : List Cl) (i : Nat) (c : Cl) : Nat := if c.kind = 2 ∧ 0 < i then i - 1 else i
def rmark (r : List Cl) (a m l : Int) : List Cl :=
  if a < 0 then r else match r[a.toNat]? with
    | some c => (match r[idxM r a.toNat c]? with | some d => mark1 r (idxM r a.toNat c) d m l | none => r)
    | none => r
theorem give_buf (res : List Cl) (n : Nat) (hl : res.length = n) (env' : List V) (he : env'[8]? = some (buf n)) {K : V → Heap → Prop} (hK : K (rowV res) [none]) : retP TT [.tmp 8] env' [some (bufB res)] (Gives K) := by
  have e : env'.getD 8 .undef = buf n := by rw [List.getD_eq_getElem?_getD, he]; rfl
  show V.force (env'.getD 8 .undef) (fun v => Gives K v [some (bufB res)])
  rw [e]
  exact .inr (.inl ⟨0, 14, rowC res, rowC_sz _, rowC_ok _, .inr ⟨0, n, 14, true, 46, by rw [rowC_len, hl], rfl⟩, hK⟩)
theorem labR_len (r : List Cl) (i : Nat) (c : Cl) (l : Int) : (labR r i c l).length = r.length := by
  unfold labR; split
  · split <;> simp
  · simp
theorem mark1_len (r : List Cl) (i : Nat) (c : Cl) (m l : Int) : (mark1 r i c m l).length = r.length := by
  unfold mark1; split
  · rfl
  · rw [labR_len, List.length_set]
theorem rmark_len (r : List Cl) (a m l : Int) : (rmark r a m l).length = r.length := by
  unfold rmark; split
  · rfl
  · split
    · split
      · exact mark1_len _ _ _ _ _
      · rfl
    · rfl
theorem rMark (r : List Cl) (hr : r.length < 1000000) (a m l : Int) : Fn Tryz.prog 157 [rowV r, .int .i64 a, .int .i32 m, .int .u8 l] (rowV (rmark r a m l)) := by
  obtain ⟨res, hres⟩ : ∃ res, res = rmark r a m l := ⟨_, rfl⟩
  have hlen : res.length = r.length := by rw [hres, rmark_len]
  rw [← hres]
  unfold rmark at hres
  refine ⟨rfl, rfl, Sem.gives (Sem.of_Wp tysOk Tryz.func157 rfl rfl ?_)⟩
  refine Wp.seq (Wp.of (md := md0) tysOk ?_)
  conv => whnf
  refine Wp.seq (Wp.of (md := md0) tysOk ?_)
  refine (rOwn r hr).call [] 0 rfl rfl (by decide) rfl rfl ?_
  conv => whnf
  refine Wp.seq (Wp.of (md := md0) tysOk ?_)
  refine ⟨fun h1 => ?_, fun h1 => ?_⟩
  · have h1 : a < 0 := of_decide_eq_true h1
    rw [if_pos h1] at hres
    repeat (first | refine BCase.yes rfl ?_ | refine BCase.no rfl ?_)
    exact .inr (.inl ⟨0, 14, rowC r, rowC_sz _, rowC_ok _, .inr ⟨0, r.length, 14, true, 46, by rw [rowC_len], rfl⟩, by rw [hres]; rfl⟩)
  · have h1 : ¬ a < 0 := of_decide_eq_false h1
    rw [if_neg h1] at hres
    repeat (first | refine BCase.yes rfl ?_ | refine BCase.no rfl ?_)
    refine ⟨fun h2 => ?_, fun h2 => ?_⟩
    · have h2 : decide (a ≥ (r.length : Int)) = true := h2
      have h2 := of_decide_eq_true h2
      rw [List.getElem?_eq_none (by omega)] at hres
      repeat (first | refine BCase.yes rfl ?_ | refine BCase.no rfl ?_)
      exact .inr (.inl ⟨0, 14, rowC r, rowC_sz _, rowC_ok _, .inr ⟨0, r.length, 14, true, 46, by rw [rowC_len], rfl⟩, by rw [hres]; rfl⟩)
    · have h2 : decide (a ≥ (r.length : Int)) = false := h2
      have h2 := of_decide_eq_false h2
      obtain ⟨k, hk⟩ : ∃ k : Nat, a = k := ⟨a.toNat, by omega⟩
      subst hk
      rw [Int.toNat_natCast] at hres
      obtain ⟨c, hc⟩ : ∃ c, r[k]? = some c := ⟨_, List.getElem?_eq_getElem (by omega)⟩
      rw [hc] at hres
      have hidx : (decide (0 ≤ (k : Int)) && decide ((k : Int) < r.length)) = true := by rw [Bool.and_eq_true]; exact ⟨decide_eq_true (by omega), decide_eq_true (by omega)⟩
      have hq : 0 + (k : Int).toNat * 14 = k * 14 := by rw [Nat.zero_add, Int.toNat_natCast]
      have fin : ∀ (i : Nat), i = idxM r k c → i < r.length → Wp Tryz.prog TT (tails codeMk 4) (envMA r.length i m l) [some (bufB r)] fun x env' h' => match x with | .exit _ => False | _ => retP TT [.tmp 8] env' h' (Gives fun v' _ => v' = rowV res) := fun i hi hir => by
        obtain ⟨d, hd⟩ : ∃ d, r[i]? = some d := ⟨_, List.getElem?_eq_getElem hir⟩
        refine mkTailA r r.length rfl hr i d hd m l fun env' he => ?_
        simp only at hres
        rw [← hi, hd] at hres
        simp only at hres
        rw [← hres]
        exact give_buf res r.length hlen env' he rfl
      repeat (first | refine BCase.yes rfl ?_ | refine BCase.no rfl ?_)
      conv => whnf
      refine Wp.seq (Wp.of (md := md0) tysOk ?_)
      refine gdP hidx ?_
      refine ⟨_, ldPart rfl hc (j := 3) rfl (by rw [hq]) (by decide) (by decide) rfl, ?_⟩
      refine ⟨fun h3 => ?_, fun h3 => ?_⟩
      · have h3 : c.kind = 2 := of_decide_eq_true h3
        repeat (first | refine BCase.yes rfl ?_ | refine BCase.no rfl ?_)
        refine ⟨fun h4 => ?_, fun h4 => ?_⟩
        · have h4 : (k : Int) > 0 := of_decide_eq_true h4
          repeat (first | refine BCase.yes rfl ?_ | refine BCase.no rfl ?_)
          conv => whnf
          refine Wp.weakT (env' := envMA r.length (k - 1 : Nat) m l) (h' := [some (bufB r)]) ?_ ⟨.inl rfl, trivial⟩ (fin (k - 1) (by unfold idxM; rw [if_pos ⟨h3, by omega⟩]) (by omega))
          have hw : IntKind.i64.wrap ((k : Int) - 1) = ((k - 1 : Nat) : Int) := by rw [wri (by omega) (by omega)]; omega
          repeat (first | exact trivial | refine ⟨.inl rfl, ?_⟩ | refine ⟨.inl (congrArg (V.int .i64) hw.symm), ?_⟩ | refine ⟨.inr (.inl rfl), ?_⟩)
        · have h4 : ¬ (k : Int) > 0 := of_decide_eq_false h4
          repeat (first | refine BCase.yes rfl ?_ | refine BCase.no rfl ?_)
          conv => whnf
          refine Wp.weakT (env' := envMA r.length k m l) (h' := [some (bufB r)]) ?_ ⟨.inl rfl, trivial⟩ (fin k (by unfold idxM; rw [if_neg (by omega)]) (by omega))
          repeat (first | exact trivial | refine ⟨.inl rfl, ?_⟩ | refine ⟨.inr (.inl rfl), ?_⟩)
      · have h3 : ¬ c.kind = 2 := of_decide_eq_false h3
        repeat (first | refine BCase.yes rfl ?_ | refine BCase.no rfl ?_)
        conv => whnf
        refine Wp.weakT (env' := envMA r.length k m l) (h' := [some (bufB r)]) ?_ ⟨.inl rfl, trivial⟩ (fin k (by unfold idxM; rw [if_neg (fun e => h3 e.1)]) (by omega))
        repeat (first | exact trivial | refine ⟨.inl rfl, ?_⟩ | refine ⟨.inr (.inl rfl), ?_⟩)
end Go.Cx
namespace Go.Cx
open Go.Proofs Go.Row
set_option maxRecDepth 100000
set_option maxHeartbeats 4000000
def md2 : Nat → Bool := fun i => i == 2
def wide2 (c : Cl) : List (List V) := [Cl.cs { c with kind := 1 }, Cl.cs (Row.half c)]
theorem rPut1 (r : List Cl) (hr : r.length < 1000000) (i : Int) (hi : -1000000 < i) (hi2 : i < 1000000) (c : Cl) : Fn Tryz.prog 167 [rowV r, .int .i64 i, Cl.v c, .bool true] (rowV (rputI r i c true)) := by
  refine ⟨rfl, rfl, Sem.gives (Sem.of_Wp tysOk Tryz.func167 rfl rfl ?_)⟩
  refine Wp.seq (Wp.of (md := md2) tysOk ?_)
  conv => whnf
  refine Wp.seq (Wp.of (md := md2) tysOk ?_)
  conv => whnf
  refine Wp.seq (Wp.of (md := md2) tysOk ?_)
  conv => whnf
  refine Wp.seq (Wp.of (md := md2) tysOk ?_)
  refine BCase.yes rfl ?_
  refine (rHalf { c with kind := 0 }).sem _ ?_
  conv => whnf
  refine Wp.freeze 9 2 14 (wide2 c) rfl (by intro x hx; simp [wide2] at hx; rcases hx with rfl | rfl <;> rfl) (by intro x hx; simp [wide2] at hx; rcases hx with rfl | rfl <;> rfl) (.inr ⟨0, 2, 14, false, 46, rfl, rfl⟩) ?_
  refine Wp.weakT (env' := [rowV r, .int .i64 i, Cl.v c, .bool true, .undef, .undef, .undef, .undef, .nils, .psl 14 (wide2 c) .any] ++ List.replicate 41 .undef) (h' := [none, none, none]) ?_ ⟨.inr rfl, .inr rfl, .inr rfl, trivial⟩ (Wp.of (md := md0) tysOk ?_)
  · repeat (first | exact trivial | refine ⟨.inl rfl, ?_⟩ | refine ⟨.inr (.inl rfl), ?_⟩)
  have hl := rowC_len r
  have he : IntKind.i64.wrap (i + 2) = i + 2 := wri (by omega) (by omega)
  repeat (first | refine BCase.yes rfl ?_ | refine BCase.no rfl ?_)
  refine ⟨fun h1 => ?_, fun h1 => ?_⟩
  · repeat (first | refine BCase.yes rfl ?_ | refine BCase.no rfl ?_)
    refine (rOwn r hr).call [] 3 rfl rfl (by decide) rfl rfl ?_
    refine .inr (.inl ⟨3, 14, rowC r, rowC_sz r, rowC_ok r, .inr ⟨0, r.length, 14, true, 46, by rw [rowC_len], rfl⟩, ?_⟩)
    unfold rputI
    rw [if_pos (of_decide_eq_true h1)]
    rfl
  · have h1 : 0 ≤ i := by have := of_decide_eq_false h1; omega
    have hp : rputI r i c true = rput r i.toNat c true := by unfold rputI; rw [if_neg (by omega)]
    repeat (first | refine BCase.yes rfl ?_ | refine BCase.no rfl ?_)
    refine ⟨fun h2 => ?_, fun h2 => ?_⟩
    · have h2 : decide (IntKind.i64.wrap (i + 2) > ((rowC r).length : Int)) = true := h2
      have h2 : (rowC r).length < i + 2 := by have := of_decide_eq_true h2; omega
      repeat (first | refine BCase.yes rfl ?_ | refine BCase.no rfl ?_)
      refine (rOwn r hr).call [] 3 rfl rfl (by decide) rfl rfl ?_
      refine .inr (.inl ⟨3, 14, rowC r, rowC_sz r, rowC_ok r, .inr ⟨0, r.length, 14, true, 46, by rw [rowC_len], rfl⟩, ?_⟩)
      rw [hp]
      unfold rput
      rw [if_neg (by show ¬ (i.toNat + 2 ≤ r.length); omega)]
      rfl
    · have h2 : decide (IntKind.i64.wrap (i + 2) > ((rowC r).length : Int)) = false := h2
      have h2 : i + 2 ≤ (rowC r).length := by have := of_decide_eq_false h2; omega
      repeat (first | refine BCase.yes rfl ?_ | refine BCase.no rfl ?_)
      have hw1 : withinN i r.length = i.toNat := by unfold withinN; omega
      have hw2 : withinN (IntKind.i64.wrap (i + 2)) r.length = i.toNat + 2 := by unfold withinN; omega
      have hbl := brks_len [i, IntKind.i64.wrap (i + 2)] r
      have hb : brks r [i, IntKind.i64.wrap (i + 2)] = b2 r i.toNat (i.toNat + 2) := by
        show brk (brk r (withinN i r.length)) (withinN (IntKind.i64.wrap (i + 2)) (brk r (withinN i r.length)).length) = _
        rw [brk_length, hw1, hw2]; rfl
      refine (rBreak r hr [i, IntKind.i64.wrap (i + 2)] (by show 2 < _; omega)).sem _ ?_
      rw [hb] at hbl ⊢
      have hbl2 := rowC_len (b2 r i.toNat (i.toNat + 2))
      refine DrawP.intro tysOk mixed false ?_
      have hlen : ((rowC (b2 r i.toNat (i.toNat + 2))).length : Int) = r.length := by rw [hbl2, b2_length]
      refine gdP (sl_ok (Int.le_refl _) h1 (by omega) (Int.le_refl _)) ?_
      refine gdP (sl_ok (a := IntKind.i64.wrap (i + 2)) (by omega) (by omega) (Int.le_refl _) (Int.le_refl _)) ?_
      refine ⟨_, (joint_fn [(_, false), (wide2 c, false), (_, false)] (by show 3 < _; omega) ?_).callT _ _, ?_⟩
      · rw [flat3]
        simp only [List.length_append, List.length_take, List.length_drop, wide2, List.length_cons, List.length_nil]
        omega
      refine ⟨by kernel_rfl, ?_⟩
      refine .inl (psl_eq ?_)
      rw [flat3, hp]
      unfold rput
      rw [if_pos (by show i.toNat + 2 ≤ r.length; omega)]
      unfold over
      rw [← rowC_app, ← rowC_app, List.append_assoc]
      refine congr (congrArg _ ?_) (congr (congrArg _ rfl) ?_)
      · rw [show Int.toNat 0 = 0 from rfl, List.drop_zero, Nat.sub_zero, rowC_take]
        rfl
      · show ((rowC (b2 r i.toNat (i.toNat + 2))).drop (IntKind.i64.wrap (i + 2)).toNat).take (((rowC (b2 r i.toNat (i.toNat + 2))).length : Int).toNat - (IntKind.i64.wrap (i + 2)).toNat) = _
        rw [List.take_of_length_le (by rw [List.length_drop]; omega), he, rowC_drop]
        show rowC (List.drop (i + 2).toNat _) = rowC (List.drop (i.toNat + 2) _)
        rw [show (i + 2).toNat = i.toNat + 2 by omega]
        rfl
theorem rPut (r : List Cl) (hr : r.length < 1000000) (i : Int) (hi : -1000000 < i) (hi2 : i < 1000000) (c : Cl) (w : Bool) : Fn Tryz.prog 167 [rowV r, .int .i64 i, Cl.v c, .bool w] (rowV (rputI r i c w)) := by
  cases w
  · exact rPut0 r hr i hi hi2 c
  · exact rPut1 r hr i hi hi2 c
end Go.Cx
namespace Go.Cx
open Go.Proofs Go.Row
set_option maxRecDepth 100000
set_option maxHeartbeats 4000000
/-! ### Grids -/
structure Gr where
  rows : List (List Cl)
  cols : Nat
  ver : Nat
  ex : Bool
  more : List (List Cl)
def grC (b : Nat) (g : Gr) : List V := [.gsl (b + 1) 1 0 g.rows.length g.rows.length g.ex g.ver, .int .i64 g.cols]
def grR (g : Gr) : Blk := .grow g.ver 75 1 (rowsC (g.rows ++ g.more))
def grB (g : Gr) : List Blk := [.cells 148 (grC 0 g), grR g]
structure Gr.ok (g : Gr) : Prop where
  n1 : 1 ≤ g.rows.length
  n2 : g.rows.length ≤ 512
  c1 : 1 ≤ g.cols
  c2 : g.cols ≤ 512
  len : ∀ r ∈ g.rows, r.length = g.cols
theorem grB_ok (g : Gr) : (grB g).all (Blk.okB 2) = true := by
  show (true && ((rowsC (g.rows ++ g.more)).all V.free1 && true)) = true
  rw [rowsC_free]; rfl
theorem rowsC_len (l : List (List Cl)) : (rowsC l).length = l.length := by simp [rowsC]
theorem rowsC_set {l : List (List Cl)} {k : Nat} (hk : k < l.length) (r : List Cl) : setL (rowsC l) k [rowV r] = rowsC (l.set k r) := by
  unfold setL rowsC
  rw [List.set_eq_take_append_cons_drop, if_pos hk, List.map_append, List.map_cons, List.map_take, List.map_drop, List.append_assoc]
  rfl
theorem ldRow {h : Heap} {i ver e sz k q : Nat} {l : List (List Cl)} {cs : List V} {r : List Cl} (hg : hget h i = some (.grow ver e sz cs)) (hcs : cs = rowsC l) (hr : l[k]? = some r) (hq : q = k) : LdOk TT 75 h i q ver (rowV r) := by
  obtain ⟨hk, he⟩ := List.getElem?_eq_some_iff.1 hr
  refine ⟨e, sz, cs, hg, ?_⟩
  subst hq hcs
  show some (Nat.blt q (rowsC l).length, (rowsC l).getD q .undef) = _
  rw [show Nat.blt q (rowsC l).length = true by rw [Nat.blt_eq, rowsC_len]; exact hk]
  unfold rowsC
  rw [List.getD_eq_getElem?_getD, List.getElem?_map, hr]
  rfl
theorem more_get {g : Gr} {k : Nat} {r : List Cl} (h : g.rows[k]? = some r) : (g.rows ++ g.more)[k]? = some r := by
  rw [List.getElem?_append_left (List.getElem?_eq_some_iff.1 h).1]; exact h
def Gr.set (g : Gr) (k : Nat) (r : List Cl) : Gr := { g with rows := g.rows.set k r }
theorem grR_set (g : Gr) (k : Nat) (r : List Cl) (hk : k < g.rows.length) : grR (g.set k r) = .grow g.ver 75 1 (setL (rowsC (g.rows ++ g.more)) k [rowV r]) := by
  unfold grR Gr.set
  rw [rowsC_set (by rw [List.length_append]; omega), List.set_append_left _ _ hk]
theorem inB (i n : Int) : (decide (0 ≤ i) && decide (i < n)) = decide (0 ≤ i ∧ i < n) := by rw [Bool.decide_and]
theorem gIs (g : Gr) (i : Int) : Eff Tryz.prog 127 [.ptr 0 0, .int .i64 i] (grB g) (grB g) (.bool (decide (0 ≤ i ∧ i < g.rows.length))) := by
  refine Eff.of rfl rfl (grB_ok g) (grB_ok g) (Nat.le_refl _) (Sem.of_body tysOk md0 Tryz.func127 rfl rfl ?_)
  refine BCase.yes rfl ?_
  refine BCase.yes rfl ?_
  refine ⟨fun h1 => ?_, fun h1 => ?_⟩
  · have h1 : 0 ≤ i := of_decide_eq_true h1
    repeat (first | refine BCase.yes rfl ?_ | refine BCase.no rfl ?_)
    refine ⟨?_, Nat.le_refl _, .inl rfl, .inl rfl, trivial⟩
    show V.bool (decide (i < g.rows.length)) = _
    simp [h1]
  · have h1 : ¬ 0 ≤ i := of_decide_eq_false h1
    repeat (first | refine BCase.yes rfl ?_ | refine BCase.no rfl ?_)
    refine ⟨?_, Nat.le_refl _, .inl rfl, .inl rfl, trivial⟩
    show V.bool false = _
    simp [h1]
theorem gHas (g : Gr) (i j : Int) : Eff Tryz.prog 82 [.ptr 0 0, .agg [.int .i64 i, .int .i64 j]] (grB g) (grB g) (.bool (decide ((0 ≤ i ∧ i < g.rows.length) ∧ 0 ≤ j ∧ j < g.cols))) := by
  refine Eff.of rfl rfl (grB_ok g) (grB_ok g) (Nat.le_refl _) (Sem.of_body tysOk md0 Tryz.func82 rfl rfl ?_)
  refine DrawP.intro tysOk mixed false ?_
  refine ⟨_, (gIs g i).callR [0, 1] 3 rfl rfl (by decide) rfl rfl, ?_⟩
  refine ⟨fun h1 => ?_, fun h1 => ?_⟩
  · have h1 : 0 ≤ i ∧ i < g.rows.length := of_decide_eq_true h1
    repeat (first | refine BCase.yes rfl ?_ | refine BCase.no rfl ?_)
    refine ⟨fun h2 => ?_, fun h2 => ?_⟩
    · have h2 : 0 ≤ j := of_decide_eq_true h2
      repeat (first | refine BCase.yes rfl ?_ | refine BCase.no rfl ?_)
      refine ⟨by kernel_rfl, ?_⟩
      refine ⟨?_, by show 2 ≤ 3; decide, .inl rfl, .inl rfl, trivial⟩
      show V.bool (decide (j < g.cols)) = _
      simp [h1, h2]
    · have h2 : ¬ 0 ≤ j := of_decide_eq_false h2
      repeat (first | refine BCase.yes rfl ?_ | refine BCase.no rfl ?_)
      refine ⟨by kernel_rfl, ?_⟩
      refine ⟨?_, by show 2 ≤ 3; decide, .inl rfl, .inl rfl, trivial⟩
      show V.bool false = _
      simp [h2]
  · have h1 : ¬ (0 ≤ i ∧ i < g.rows.length) := of_decide_eq_false h1
    repeat (first | refine BCase.yes rfl ?_ | refine BCase.no rfl ?_)
    refine ⟨by kernel_rfl, ?_⟩
    refine ⟨?_, by show 2 ≤ 3; decide, .inl rfl, .inl rfl, trivial⟩
    show V.bool false = _
    simp [h1]
end Go.Cx
namespace Go.Cx
open Go.Proofs Go.Row
set_option maxRecDepth 100000
set_option maxHeartbeats 4000000
/-! ### at: a row is made another one -/
def posV (i j : Int) : V := .agg [.int .i64 i, .int .i64 j]
def atG (g : Gr) (i j : Int) (F : List Cl → List Cl) : Gr := if (0 ≤ i ∧ i < g.rows.length) ∧ 0 ≤ j ∧ j < g.cols then (match g.rows[i.toNat]? with | some r => g.set i.toNat (F r) | none => g) else g
def stampV (c : Cl) (w : Bool) : V := .agg (Cl.cs c ++ [.bool w])
theorem stampOn (c : Cl) (w : Bool) (r : List Cl) (hr : r.length < 1000000) (j : Int) (h1 : -1000000 < j) (h2 : j < 1000000) : Fn Tryz.prog 147 [stampV c w, rowV r, .int .i64 j] (rowV (rputI r j c w)) := by
  refine Fn.of_body tysOk md0 Tryz.func147 rfl rfl rfl rfl ?_
  refine (rPut r hr j h1 h2 c w).sem _ ?_
  rfl
theorem grB_len (g : Gr) : (grB g).length = 2 := rfl
theorem atPut_ok (g : Gr) (c : Cl) (w : Bool) : ([.cells 148 (grC 0 g), grR g] : List Blk).all (Blk.okB 2) = true := by
  show (true && ((rowsC (g.rows ++ g.more)).all V.free1 && true)) = true
  rw [rowsC_free]; rfl
theorem gAtPut (g : Gr) (hg : g.ok) (i j : Int) (c : Cl) (w : Bool) : Eff Tryz.prog 146 [.ptr 0 0, posV i j, .fn (.func 147) [stampV c w] []] [.cells 148 (grC 0 g), grR g] [.cells 148 (grC 0 (atG g i j (fun r => rputI r j c w))), grR (atG g i j (fun r => rputI r j c w))] (.tup []) := by
  have hn2 := hg.n2
  have hc2 := hg.c2
  refine Eff.of rfl rfl (atPut_ok g c w) (atPut_ok _ c w) (Nat.le_refl _) (Sem.of_body tysOk md0 Tryz.func146 rfl rfl ?_)
  refine (gHas g i j).call [0, 1] 3 rfl rfl (by decide) rfl rfl ?_
  refine ⟨fun h1 => ?_, fun h1 => ?_⟩
  · have h1 : (0 ≤ i ∧ i < g.rows.length) ∧ 0 ≤ j ∧ j < g.cols := of_decide_eq_true h1
    obtain ⟨r, hr⟩ : ∃ r, g.rows[i.toNat]? = some r := ⟨_, List.getElem?_eq_getElem (by omega)⟩
    have hrl : r.length = g.cols := hg.len r (List.mem_of_getElem? hr)
    have he : atG g i j (fun r => rputI r j c w) = g.set i.toNat ((fun r => rputI r j c w) r) := by unfold atG; rw [if_pos h1, hr]
    have hidx : (decide (0 ≤ i) && decide (i < g.rows.length)) = true := by rw [Bool.and_eq_true]; exact ⟨decide_eq_true (by omega), decide_eq_true (by omega)⟩
    have hq : 0 + i.toNat * 1 = i.toNat := by omega
    refine DrawP.intro tysOk mixed false ?_
    refine gdP hidx ?_
    refine ⟨_, ldRow rfl rfl (more_get hr) hq, ?_⟩
    refine ⟨_, (stampOn c w r (by omega) j (by omega) (by omega)).callT _ _, ?_⟩
    refine gdP hidx ?_
    refine gdP ?_ ?_
    · show (Nat.beq g.ver g.ver && (true && Nat.ble (0 + i.toNat * 1 + 1) (rowsC (g.rows ++ g.more)).length)) = true
      rw [Nat.beq_refl, hq, rowsC_len, List.length_append, Nat.ble_eq_true_of_le (by omega)]; rfl
    refine ⟨by kernel_rfl, ?_⟩
    have hlen : (g.set i.toNat ((fun r => rputI r j c w) r)).rows.length = g.rows.length := by simp [Gr.set]
    refine ⟨rfl, by show 2 ≤ 3; decide, .inl ?_, .inl ?_, trivial⟩
    · rw [he]
      show some (Blk.cells _ (grC 0 (g.set i.toNat ((fun r => rputI r j c w) r)))) = some (Blk.cells _ (grC 0 g))
      unfold grC
      rw [hlen]; rfl
    · rw [he]
      show some (grR (g.set i.toNat ((fun r => rputI r j c w) r))) = some (Blk.grow _ _ _ (setL (rowsC (g.rows ++ g.more)) (0 + i.toNat * 1) [rowV ((fun r => rputI r j c w) r)]))
      rw [hq, grR_set _ _ _ (by omega)]
  · have h1 : ¬ ((0 ≤ i ∧ i < g.rows.length) ∧ 0 ≤ j ∧ j < g.cols) := of_decide_eq_false h1
    have he : atG g i j (fun r => rputI r j c w) = g := by unfold atG; rw [if_neg h1]
    rw [he]
    exact ⟨rfl, by show 2 ≤ 3; decide, .inl rfl, .inl rfl, trivial⟩
theorem markOn (m l : Int) (r : List Cl) (hr : r.length < 1000000) (j : Int) : Eff Tryz.prog 156 [rowV r, .int .i64 j, .ptr 0 0, .ptr 1 0] [.cells 21 [.int .i32 m], .cells 34 [.int .u8 l]] [.cells 21 [.int .i32 m], .cells 34 [.int .u8 l]] (rowV (rmark r j m l)) := by
  refine Eff.of rfl rfl rfl rfl (Nat.le_refl _) (Sem.of_body tysOk md0 Tryz.func156 rfl rfl ?_)
  refine (rMark r hr j m l).sem _ ?_
  exact ⟨rfl, Nat.le_refl _, .inl rfl, .inl rfl, trivial⟩
theorem atMark_ok (g : Gr) (m l : Int) : ([.cells 148 (grC 0 g), grR g, .cells 21 [.int .i32 m], .cells 34 [.int .u8 l]] : List Blk).all (Blk.okB 4) = true := by
  show (true && ((rowsC (g.rows ++ g.more)).all V.free1 && true)) = true
  rw [rowsC_free]; rfl
theorem gAtMark (g : Gr) (hg : g.ok) (i j : Int) (m l : Int) : Eff Tryz.prog 146 [.ptr 0 0, posV i j, .fn (.func 156) [] [.ptr 2 0, .ptr 3 0]] [.cells 148 (grC 0 g), grR g, .cells 21 [.int .i32 m], .cells 34 [.int .u8 l]] [.cells 148 (grC 0 (atG g i j (fun r => rmark r j m l))), grR (atG g i j (fun r => rmark r j m l)), .cells 21 [.int .i32 m], .cells 34 [.int .u8 l]] (.tup []) := by
  have hn2 := hg.n2
  have hc2 := hg.c2
  refine Eff.of rfl rfl (atMark_ok g m l) (atMark_ok _ m l) (Nat.le_refl _) (Sem.of_body tysOk md0 Tryz.func146 rfl rfl ?_)
  refine (gHas g i j).call [0, 1] 5 rfl rfl (by decide) rfl rfl ?_
  refine ⟨fun h1 => ?_, fun h1 => ?_⟩
  · have h1 : (0 ≤ i ∧ i < g.rows.length) ∧ 0 ≤ j ∧ j < g.cols := of_decide_eq_true h1
    obtain ⟨r, hr⟩ : ∃ r, g.rows[i.toNat]? = some r := ⟨_, List.getElem?_eq_getElem (by omega)⟩
    have hrl : r.length = g.cols := hg.len r (List.mem_of_getElem? hr)
    have he : atG g i j (fun r => rmark r j m l) = g.set i.toNat ((fun r => rmark r j m l) r) := by unfold atG; rw [if_pos h1, hr]
    have hidx : (decide (0 ≤ i) && decide (i < g.rows.length)) = true := by rw [Bool.and_eq_true]; exact ⟨decide_eq_true (by omega), decide_eq_true (by omega)⟩
    have hq : 0 + i.toNat * 1 = i.toNat := by omega
    refine DrawP.intro tysOk mixed false ?_
    refine gdP hidx ?_
    refine ⟨_, ldRow rfl rfl (more_get hr) hq, ?_⟩
    refine ⟨_, (markOn m l r (by omega) j).callR [2, 3] 5 rfl rfl (by decide) rfl rfl, ?_⟩
    refine gdP hidx ?_
    refine gdP ?_ ?_
    · show (Nat.beq g.ver g.ver && (true && Nat.ble (0 + i.toNat * 1 + 1) (rowsC (g.rows ++ g.more)).length)) = true
      rw [Nat.beq_refl, hq, rowsC_len, List.length_append, Nat.ble_eq_true_of_le (by omega)]; rfl
    refine ⟨by kernel_rfl, ?_⟩
    have hlen : (g.set i.toNat ((fun r => rmark r j m l) r)).rows.length = g.rows.length := by simp [Gr.set]
    refine ⟨rfl, by show 4 ≤ 5; decide, .inl ?_, .inl ?_, .inl rfl, .inl rfl, trivial⟩
    · rw [he]
      show some (Blk.cells _ (grC 0 (g.set i.toNat ((fun r => rmark r j m l) r)))) = some (Blk.cells _ (grC 0 g))
      unfold grC
      rw [hlen]; rfl
    · rw [he]
      show some (grR (g.set i.toNat ((fun r => rmark r j m l) r))) = some (Blk.grow _ _ _ (setL (rowsC (g.rows ++ g.more)) (0 + i.toNat * 1) [rowV ((fun r => rmark r j m l) r)]))
      rw [hq, grR_set _ _ _ (by omega)]
  · have h1 : ¬ ((0 ≤ i ∧ i < g.rows.length) ∧ 0 ≤ j ∧ j < g.cols) := of_decide_eq_false h1
    have he : atG g i j (fun r => rmark r j m l) = g := by unfold atG; rw [if_neg h1]
    rw [he]
    exact ⟨rfl, by show 4 ≤ 5; decide, .inl rfl, .inl rfl, .inl rfl, .inl rfl, trivial⟩
theorem insOn (n : Int) (b : Cl) (r : List Cl) (hr : r.length < 1000000) (j : Int) : Eff Tryz.prog 162 [rowV r, .int .i64 j, .ptr 0 0, .ptr 1 0] [.cells 3 [.int .i64 n], .cells 46 (Cl.cs b)] [.cells 3 [.int .i64 n], .cells 46 (Cl.cs b)] (rowV (rinsI r j n b)) := by
  refine Eff.of rfl rfl rfl rfl (Nat.le_refl _) (Sem.of_body tysOk md0 Tryz.func162 rfl rfl ?_)
  refine (rIns r hr j n b).sem _ ?_
  exact ⟨rfl, Nat.le_refl _, .inl rfl, .inl rfl, trivial⟩
theorem atInsert_ok (g : Gr) (n : Int) (b : Cl) : ([.cells 148 (grC 0 g), grR g, .cells 3 [.int .i64 n], .cells 46 (Cl.cs b)] : List Blk).all (Blk.okB 4) = true := by
  show (true && ((rowsC (g.rows ++ g.more)).all V.free1 && true)) = true
  rw [rowsC_free]; rfl
theorem gAtInsert (g : Gr) (hg : g.ok) (i j : Int) (n : Int) (b : Cl) : Eff Tryz.prog 146 [.ptr 0 0, posV i j, .fn (.func 162) [] [.ptr 2 0, .ptr 3 0]] [.cells 148 (grC 0 g), grR g, .cells 3 [.int .i64 n], .cells 46 (Cl.cs b)] [.cells 148 (grC 0 (atG g i j (fun r => rinsI r j n b))), grR (atG g i j (fun r => rinsI r j n b)), .cells 3 [.int .i64 n], .cells 46 (Cl.cs b)] (.tup []) := by
  have hn2 := hg.n2
  have hc2 := hg.c2
  refine Eff.of rfl rfl (atInsert_ok g n b) (atInsert_ok _ n b) (Nat.le_refl _) (Sem.of_body tysOk md0 Tryz.func146 rfl rfl ?_)
  refine (gHas g i j).call [0, 1] 5 rfl rfl (by decide) rfl rfl ?_
  refine ⟨fun h1 => ?_, fun h1 => ?_⟩
  · have h1 : (0 ≤ i ∧ i < g.rows.length) ∧ 0 ≤ j ∧ j < g.cols := of_decide_eq_true h1
    obtain ⟨r, hr⟩ : ∃ r, g.rows[i.toNat]? = some r := ⟨_, List.getElem?_eq_getElem (by omega)⟩
    have hrl : r.length = g.cols := hg.len r (List.mem_of_getElem? hr)
    have he : atG g i j (fun r => rinsI r j n b) = g.set i.toNat ((fun r => rinsI r j n b) r) := by unfold atG; rw [if_pos h1, hr]
    have hidx : (decide (0 ≤ i) && decide (i < g.rows.length)) = true := by rw [Bool.and_eq_true]; exact ⟨decide_eq_true (by omega), decide_eq_true (by omega)⟩
    have hq : 0 + i.toNat * 1 = i.toNat := by omega
    refine DrawP.intro tysOk mixed false ?_
    refine gdP hidx ?_
    refine ⟨_, ldRow rfl rfl (more_get hr) hq, ?_⟩
    refine ⟨_, (insOn n b r (by omega) j).callR [2, 3] 5 rfl rfl (by decide) rfl rfl, ?_⟩
    refine gdP hidx ?_
    refine gdP ?_ ?_
    · show (Nat.beq g.ver g.ver && (true && Nat.ble (0 + i.toNat * 1 + 1) (rowsC (g.rows ++ g.more)).length)) = true
      rw [Nat.beq_refl, hq, rowsC_len, List.length_append, Nat.ble_eq_true_of_le (by omega)]; rfl
    refine ⟨by kernel_rfl, ?_⟩
    have hlen : (g.set i.toNat ((fun r => rinsI r j n b) r)).rows.length = g.rows.length := by simp [Gr.set]
    refine ⟨rfl, by show 4 ≤ 5; decide, .inl ?_, .inl ?_, .inl rfl, .inl rfl, trivial⟩
    · rw [he]
      show some (Blk.cells _ (grC 0 (g.set i.toNat ((fun r => rinsI r j n b) r)))) = some (Blk.cells _ (grC 0 g))
      unfold grC
      rw [hlen]; rfl
    · rw [he]
      show some (grR (g.set i.toNat ((fun r => rinsI r j n b) r))) = some (Blk.grow _ _ _ (setL (rowsC (g.rows ++ g.more)) (0 + i.toNat * 1) [rowV ((fun r => rinsI r j n b) r)]))
      rw [hq, grR_set _ _ _ (by omega)]
  · have h1 : ¬ ((0 ≤ i ∧ i < g.rows.length) ∧ 0 ≤ j ∧ j < g.cols) := of_decide_eq_false h1
    have he : atG g i j (fun r => rinsI r j n b) = g := by unfold atG; rw [if_neg h1]
    rw [he]
    exact ⟨rfl, by show 4 ≤ 5; decide, .inl rfl, .inl rfl, .inl rfl, .inl rfl, trivial⟩
theorem gPut (g : Gr) (hg : g.ok) (i j : Int) (c : Cl) (w : Bool) : Eff Tryz.prog 117 [.ptr 0 0, posV i j, Cl.v c, .bool w] (grB g) (grB (atG g i j fun r => rputI r j c w)) (.tup []) := by
  refine Eff.of rfl rfl (grB_ok g) (grB_ok _) (Nat.le_refl _) (Sem.of_body tysOk md0 Tryz.func117 rfl rfl ?_)
  refine (gAtPut g hg i j c w).call [0, 1] 4 rfl rfl (by decide) rfl rfl ?_
  exact ⟨rfl, by show 2 ≤ 4; decide, .inl rfl, .inl rfl, trivial⟩
theorem gMark (g : Gr) (hg : g.ok) (i j m l : Int) : Eff Tryz.prog 136 [.ptr 0 0, posV i j, .int .i32 m, .int .u8 l] (grB g) (grB (atG g i j fun r => rmark r j m l)) (.tup []) := by
  refine Eff.of rfl rfl (grB_ok g) (grB_ok _) (Nat.le_refl _) (Sem.of_body tysOk md0 Tryz.func136 rfl rfl ?_)
  refine (gAtMark g hg i j m l).call [0, 1, 3, 4] 5 rfl rfl (by decide) rfl rfl ?_
  exact ⟨rfl, by show 2 ≤ 5; decide, .inl rfl, .inl rfl, trivial⟩
theorem gInsert (g : Gr) (hg : g.ok) (i j n : Int) (b : Cl) : Eff Tryz.prog 142 [.ptr 0 0, posV i j, .int .i64 n, Cl.v b] (grB g) (grB (atG g i j fun r => rinsI r j n b)) (.tup []) := by
  refine Eff.of rfl rfl (grB_ok g) (grB_ok _) (Nat.le_refl _) (Sem.of_body tysOk md0 Tryz.func142 rfl rfl ?_)
  refine (gAtInsert g hg i j n b).call [0, 1, 3, 4] 5 rfl rfl (by decide) rfl rfl ?_
  exact ⟨rfl, by show 2 ≤ 5; decide, .inl rfl, .inl rfl, trivial⟩
end Go.Cx
namespace Go.Cx
open Go.Proofs Go.Row
set_option maxRecDepth 100000
set_option maxHeartbeats 4000000
theorem rClone (r : List Cl) (h0 : r ≠ []) (hr : r.length < 1000000) : Fn Tryz.prog 71 [rowV r] (rowV r) := by
  cases r with
  | nil => exact absurd rfl h0
  | cons c r =>
    refine ⟨rfl, rfl, Sem.gives (Sem.of_body tysOk md0 Tryz.func71 rfl rfl ?_)⟩
    refine BCase.no rfl ?_
    refine gdP ?_ ?_
    · have : (rowC (c :: r)).length = r.length + 1 := by rw [rowC_len]; rfl
      show (true && (true && true && Nat.ble ((([] : List (List V)).length + (rowC (c :: r)).length) * 56) 281474976710656)) = true
      rw [this, Nat.ble_eq_true_of_le (by simp at hr ⊢; omega)]; rfl
    exact .inr (.inr ⟨_, forgT_psl, rfl⟩)
theorem gRow (g : Gr) (hg : g.ok) (i : Nat) (r : List Cl) (hr : g.rows[i]? = some r) : Eff Tryz.prog 129 [.ptr 0 0, .int .i64 i] (grB g) (grB g) (rowV r) := by
  obtain ⟨hi, _⟩ := List.getElem?_eq_some_iff.1 hr
  have hrl : r.length = g.cols := hg.len r (List.mem_of_getElem? hr)
  have h1 := hg.c1
  have h2 := hg.c2
  refine Eff.of rfl rfl (grB_ok g) (grB_ok g) (Nat.le_refl _) (Sem.of_body tysOk md0 Tryz.func129 rfl rfl ?_)
  refine (gIs g i).call [0, 1] 2 rfl rfl (by decide) rfl rfl ?_
  refine BCase.no (by rw [decide_eq_true (by omega)]; rfl) ?_
  refine gdP (by rw [Bool.and_eq_true]; exact ⟨decide_eq_true (by omega), decide_eq_true (by omega)⟩) ?_
  refine ⟨_, ldRow rfl rfl (more_get hr) (by rw [Int.toNat_natCast]; omega), ?_⟩
  refine (rClone r (fun e => by rw [e] at hrl; simp at hrl; omega) (by omega)).sem _ ?_
  exact ⟨rfl, Nat.le_refl _, .inl rfl, .inl rfl, trivial⟩
theorem gSize (g : Gr) : Eff Tryz.prog 128 [.ptr 0 0] (grB g) (grB g) (.tup [.int .i64 g.rows.length, .int .i64 g.cols]) := by
  refine Eff.of rfl rfl (grB_ok g) (grB_ok g) (Nat.le_refl _) (Sem.of_body tysOk md0 Tryz.func128 rfl rfl ?_)
  refine BCase.no rfl ?_
  refine DrawP.intro tysOk mixed false ?_
  refine ⟨by kernel_rfl, ?_⟩
  exact ⟨rfl, Nat.le_refl _, .inl rfl, .inl rfl, trivial⟩
def cellAt (g : Gr) (i j : Nat) : Cl := ((g.rows[i]?.getD [])[j]?).getD zeroC
theorem gAtC (g : Gr) (hg : g.ok) (i j : Nat) (hi : i < g.rows.length) (hj : j < g.cols) : Eff Tryz.prog 44 [.ptr 0 0, posV i j] (grB g) (grB g) (.tup [Cl.v (cellAt g i j), .bool true]) := by
  obtain ⟨r, hr⟩ : ∃ r, g.rows[i]? = some r := ⟨_, List.getElem?_eq_getElem hi⟩
  have hrl : r.length = g.cols := hg.len r (List.mem_of_getElem? hr)
  obtain ⟨c, hc⟩ : ∃ c, r[j]? = some c := ⟨_, List.getElem?_eq_getElem (by omega)⟩
  have he : cellAt g i j = c := by unfold cellAt; rw [hr]; simp [hc]
  rw [he]
  refine Eff.of rfl rfl (grB_ok g) (grB_ok g) (Nat.le_refl _) (Sem.of_body tysOk md0 Tryz.func44 rfl rfl ?_)
  refine (gHas g i j).call [0, 1] 4 rfl rfl (by decide) rfl rfl ?_
  refine BCase.no (by rw [decide_eq_true (by omega)]; rfl) ?_
  refine DrawP.intro tysOk mixed false ?_
  refine gdP (by rw [Bool.and_eq_true]; exact ⟨decide_eq_true (by omega), decide_eq_true (by omega)⟩) ?_
  refine ⟨_, ldRow rfl rfl (more_get hr) (by rw [Int.toNat_natCast]; omega), ?_⟩
  refine ⟨Cl.cs c, ⟨by omega, by rw [Int.toNat_natCast]; exact rowC_get hc⟩, gdP rfl ?_⟩
  refine ⟨by kernel_rfl, ?_⟩
  exact ⟨rfl, by show 2 ≤ 4; decide, .inl rfl, .inl rfl, trivial⟩
end Go.Cx
namespace Go.Cx
open Go.Proofs Go.Row
set_option maxRecDepth 100000
set_option maxHeartbeats 4000000
/-- The ranges over functions in a code. -/
def rangesOf : Code → List (List Nat × Code × Code)
  | .seq a b => rangesOf a ++ rangesOf b
  | .cond _ a b => rangesOf a ++ rangesOf b
  | .block _ a => rangesOf a
  | .loop a => rangesOf a
  | .rangeFunc _ ps a b => [(ps.toList, a, b)]
  | _ => []
noncomputable def rangeN (f : Func) (k : Nat) : List Nat × Code × Code := match f.body with | some c => (rangesOf c).getD k ([], .skip, .skip) | none => ([], .skip, .skip)
noncomputable def loopB (f : Func) (k : Nat) (env : List V) : Option Blk := some (.loop env (rangeN f k).1 (rangeN f k).2.1 (rangeN f k).2.2 .ready none)
/-! ### Raise -/
def envAll (y c n : Nat) (ex : Bool) (ver : Nat) (i : Int) : List V := [.yld y, .ptr c 0, .undef, .undef, .undef, .undef, .undef, .undef, .undef, .undef, .gsl 1 1 0 n n ex ver, .int .i64 n, .int .i64 i] ++ List.replicate 10 .undef
def upto (l : List (List Cl)) (F : List Cl → List Cl) (i : Nat) : List (List Cl) := (l.take i).map F ++ l.drop i
theorem upto_len (l : List (List Cl)) (F : List Cl → List Cl) (i : Nat) : (upto l F i).length = l.length := by simp [upto]; omega
theorem upto_get {l : List (List Cl)} {F : List Cl → List Cl} {i : Nat} {r : List Cl} (h : l[i]? = some r) : (upto l F i)[i]? = some r := by
  obtain ⟨q1, q2⟩ := List.getElem?_eq_some_iff.1 h
  unfold upto
  rw [List.getElem?_append_right (by simp; omega)]
  simp only [List.length_map, List.length_take]
  rw [List.getElem?_drop, show i + (i - min i l.length) = i by omega, h]
theorem upto_set {l : List (List Cl)} {F : List Cl → List Cl} {i : Nat} {r : List Cl} (h : l[i]? = some r) : (upto l F i).set i (F r) = upto l F (i + 1) := by
  obtain ⟨q1, q2⟩ := List.getElem?_eq_some_iff.1 h
  have hl : ((l.take i).map F).length = i := by simp; omega
  unfold upto
  have ht : l.take (i + 1) = l.take i ++ [r] := by rw [List.take_succ_eq_append_getElem q1, q2]
  rw [List.set_append_right _ _ (by omega), hl, Nat.sub_self, List.drop_eq_getElem_cons q1, List.set_cons_zero, ht]
  simp
theorem upto_full (l : List (List Cl)) (F : List Cl → List Cl) : upto l F l.length = l.map F := by simp [upto]
def rowsB (g : Gr) (l : List (List Cl)) : Blk := .grow g.ver 75 1 (rowsC (l ++ g.more))
noncomputable def hpRa (g : Gr) (l : Int) (i : Nat) : Heap := [some (.cells 148 (grC 0 g)), some (rowsB g (upto g.rows (fun r => raiseR r l) i)), some (.cells 83 [.ptr 0 0]), some (.cells 34 [.int .u8 l]), some (.cells 83 [.ptr 0 0]),
  loopB Tryz.f98 0 ([.ptr 0 0, .int .u8 l, .ptr 2 0, .ptr 3 0, .undef, .undef, .undef, .fn (.func 154) [] [.ptr 4 0]] ++ List.replicate 11 .undef)]
theorem rowsB_set {g : Gr} {l : List (List Cl)} {k q : Nat} (hk : k < l.length) (hq : q = k) (r : List Cl) : Blk.grow g.ver 75 1 (setL (rowsC (l ++ g.more)) q [rowV r]) = rowsB g (l.set k r) := by
  subst hq
  unfold rowsB
  rw [rowsC_set (by rw [List.length_append]; omega), List.set_append_left _ _ hk]
theorem st_ok {g : Gr} {l : List (List Cl)} {k q : Nat} (hk : k < l.length) (hq : q = k) : (Nat.beq g.ver g.ver && (true && Nat.ble (q + 1) (rowsC (l ++ g.more)).length)) = true := by
  rw [hq, Nat.beq_refl, rowsC_len, List.length_append, Nat.ble_eq_true_of_le (by omega)]; rfl

def mapG (g : Gr) (F : List Cl → List Cl) : Gr := { g with rows := g.rows.map F }
theorem gRaise (g : Gr) (hg : g.ok) (l : Int) : Eff Tryz.prog 98 [.ptr 0 0, .int .u8 l] (grB g) (grB (mapG g fun r => raiseR r l)) (.tup []) := by
  refine Eff.of rfl rfl (grB_ok g) (grB_ok _) (Nat.le_refl _) (Sem.of_body tysOk md0 Tryz.func98 rfl rfl ?_)
  refine Sem.of_body tysOk md0 Tryz.func134 rfl rfl ?_
  refine RangeP.fgt ([.ptr 0 0, .int .u8 l, .ptr 2 0, .ptr 3 0, .undef, .undef, .undef, .fn (.func 154) [] [.ptr 4 0]] ++ List.replicate 11 .undef) (by repeat (first | exact trivial | refine ⟨.inl rfl, ?_⟩ | refine ⟨.inr rfl, ?_⟩)) ?_
  refine RangeP.intro rfl rfl ?_
  refine Sem.of_body tysOk md0 Tryz.func154 rfl rfl ?_
  refine BCase.no rfl ?_
  refine LoopP.inv (md := md0) (fun k env h => ∃ (i : Nat), k = g.rows.length - i ∧ i ≤ g.rows.length ∧ env = envAll 5 4 g.rows.length g.ex g.ver i ∧ h = hpRa g l i) g.rows.length ⟨envAll 5 4 g.rows.length g.ex g.ver 0, _, .same (by repeat (first | exact trivial | refine ⟨.inl rfl, ?_⟩ | refine ⟨.inr rfl, ?_⟩)) rfl, 0, rfl, Nat.zero_le _, rfl, rfl⟩ ?_
  rintro k _ _ ⟨i, rfl, hi, rfl, rfl⟩
  refine ⟨fun h => ?_, fun h => ?_⟩
  · have hi' : i < g.rows.length := by have := of_decide_eq_true h; omega
    obtain ⟨r, hr⟩ : ∃ r, g.rows[i]? = some r := ⟨_, List.getElem?_eq_getElem hi'⟩
    have hrl : r.length = g.cols := hg.len r (List.mem_of_getElem? hr)
    have hc2 := hg.c2
    have hn2 := hg.n2
    have hul := upto_len g.rows (fun r => raiseR r l) i
    have hidx : (decide (0 ≤ (i : Int)) && decide ((i : Int) < g.rows.length)) = true := by rw [Bool.and_eq_true]; exact ⟨decide_eq_true (by omega), decide_eq_true (by omega)⟩
    have hq : 0 + (i : Int).toNat * 1 = i := by rw [Int.toNat_natCast]; omega
    refine gdP hidx ?_
    refine ⟨_, ldRow rfl rfl (by rw [List.getElem?_append_left (by omega)]; exact upto_get hr) hq, ?_⟩
    refine RoundP.intro rfl rfl (Wp.of (md := md0) tysOk ?_)
    conv => whnf
    refine Wp.of (md := md0) tysOk ?_
    refine DrawP.intro tysOk mixed false ?_
    refine ⟨_, (rRaise r (by omega) l).callT _ _, ?_⟩
    refine gdP hidx ?_
    refine gdP (st_ok (by omega) hq) ?_
    refine ⟨by kernel_rfl, ?_⟩
    refine BCase.no rfl ?_
    refine ⟨g.rows.length - (i + 1), envAll 5 4 g.rows.length g.ex g.ver (i + 1 : Nat), hpRa g l (i + 1), by omega, .same ?_ ?_, i + 1, rfl, hi', rfl, rfl⟩
    · repeat (first | exact trivial | refine ⟨.inl rfl, ?_⟩ | refine ⟨.inl (congrArg (V.int .i64) (wrs i 1 (by omega)).symm), ?_⟩ | refine ⟨.inr rfl, ?_⟩)
    · have hs := rowsB_set (g := g) (l := upto g.rows (fun r => raiseR r l) i) (k := i) (q := 0 + (i : Int).toNat * 1) (by omega) hq (raiseR r l)
      rw [upto_set (F := fun r => raiseR r l) hr] at hs
      exact congrArg (fun b => [_, some b, _, _, _, _]) hs.symm
  · have hi' : i = g.rows.length := by have := of_decide_eq_false h; omega
    subst hi'
    have hml : (mapG g fun r => raiseR r l).rows.length = g.rows.length := by simp [mapG]
    refine ⟨rfl, by show 2 ≤ 6; decide, .inl ?_, .inl ?_, trivial⟩
    · show some (Blk.cells _ (grC 0 (mapG g fun r => raiseR r l))) = some (Blk.cells _ (grC 0 g))
      unfold grC
      rw [hml]; rfl
    · show some (grR (mapG g fun r => raiseR r l)) = some (rowsB g (upto g.rows (fun r => raiseR r l) g.rows.length))
      rw [upto_full]; rfl
end Go.Cx
