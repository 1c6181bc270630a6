/- What functions of this seat compute, each for every argument of the shapes that are named; no condition beside the stated ones. -/
import Derived.Test.YtadgjigabechnaaLM2g
namespace Go.Cx
open Go.Proofs Go.RowKit
set_option maxRecDepth 100000
set_option maxHeartbeats 4000000
def md7 : Nat → Bool := fun i => Nat.beq i 7
/-- No bit but those of modes. -/
def goodM (m : BitVec 16) : Prop := ∀ k, 11 ≤ k → m.getLsbD k = false
def itB (seen : List Nat) : Option Blk := some (.miter 1 13 seen 13)
def fsB (T : List Ent) : Option Blk := some (.map (T.map entV) 13)
def outA (l : List Md) : V := match l with | [] => .nils | x :: l => .gsl 5 2 0 (l.length + 1) (l.length + 1) false l.length
def hpA (m : BitVec 16) (T : List Ent) (seen : List Nat) (x y : Md) (l : List Md) : Heap := match l with
  | [] => [wB m.toNat, fsB T, itB seen]
  | z :: l => [wB m.toNat, fsB T, itB seen, some (.cells 24 (mdC x)), some (.cells 24 (mdC y)), some (.grow l.length 24 2 (mdsV (z :: l)).flatten)]
def envA (m : BitVec 16) (l : List Md) : List V := wV m.toNat :: .ptr 0 0 :: outA l :: .undef :: .undef :: .undef :: .undef :: .undef :: .undef :: .ptr 2 0 :: List.replicate 17 .undef
theorem twoPow_nat {k : Nat} (hk : k < 16) : ((2 ^ k : Nat) : Int) = ((BitVec.twoPow 16 k).toNat : Int) := by
  rw [BitVec.toNat_twoPow, Nat.mod_eq_of_lt (Nat.pow_lt_pow_right (by omega) hk)]
theorem and_pow (m : BitVec 16) {k : Nat} (hk : k < 16) : (m &&& BitVec.twoPow 16 k ≠ 0) ↔ m.getLsbD k = true := by
  constructor
  · intro h
    cases hb : m.getLsbD k with
    | true => rfl
    | false =>
      exfalso
      apply h
      apply BitVec.eq_of_getLsbD_eq
      intro j _
      rw [BitVec.getLsbD_and, BitVec.getLsbD_twoPow]
      by_cases hj : k = j
      · subst hj; simp [hb]
      · simp [hj]
  · intro hb h
    have := congrArg (fun b => BitVec.getLsbD b k) h
    simp [BitVec.getLsbD_and, BitVec.getLsbD_twoPow, hb] at this
    omega
theorem test16 (m : BitVec 16) {k : Nat} (hk : k < 16) : (IntKind.u16.wrap ↑(BitVec.ofInt IntKind.u16.bits (m.toNat : Int) &&& BitVec.ofInt IntKind.u16.bits ((2 ^ k : Nat) : Int)).toNat != 0) = m.getLsbD k := by
  rw [twoPow_nat hk, and16, nz16, Bool.eq_iff_iff, decide_eq_true_iff]
  exact and_pow m hk
theorem key_lt {e : Bool × Int × Nat} (he : e ∈ keyT) : e.2.2 < 11 := by
  simp only [keyT, List.mem_cons, List.not_mem_nil, or_false] at he
  rcases he with rfl | rfl | rfl | rfl | rfl | rfl | rfl | rfl | rfl | rfl | rfl | rfl | rfl <;> decide
theorem all_ne (m : BitVec 16) (hg : goodM m) (h0 : m ≠ 0) : allOf m ≠ [] := by
  intro h
  apply h0
  apply BitVec.eq_of_getLsbD_eq
  intro j _
  have hz : BitVec.getLsbD (0 : BitVec 16) j = false := by simp
  rw [hz]
  rcases Nat.lt_or_ge j 11 with hj | hj
  · unfold allOf at h
    rw [List.map_eq_nil_iff, List.filter_eq_nil_iff] at h
    have : ∃ e ∈ keyT, e.2.2 = j := by
      rcases (show j = 0 ∨ j = 1 ∨ j = 2 ∨ j = 3 ∨ j = 4 ∨ j = 5 ∨ j = 6 ∨ j = 7 ∨ j = 8 ∨ j = 9 ∨ j = 10 by omega) with rfl | rfl | rfl | rfl | rfl | rfl | rfl | rfl | rfl | rfl | rfl <;> decide
    obtain ⟨e, he, rfl⟩ := this
    have := h e he
    simpa using this
  · exact hg j hj
theorem fs_under (T : List Ent) (n : Nat) : Blk.under n (fsB T) = true := by
  show (T.map entV).all (fun x => x.1.under n && x.2.1.under n) = true
  rw [List.all_eq_true]
  intro x hx
  obtain ⟨p, _, rfl⟩ := List.mem_map.1 hx
  rfl
theorem flat_under (n : Nat) : ∀ l : List Md, (mdsV l).flatten.all (V.under n) = true
  | [] => rfl
  | x :: l => by
    rw [show (mdsV (x :: l)).flatten = .bool x.p :: .int .i64 x.n :: (mdsV l).flatten from rfl, List.all_cons, List.all_cons, flat_under n l]
    rfl
theorem underB (m : BitVec 16) (T : List Ent) (seen : List Nat) (x y z : Md) (l : List Md) : ((envA m (z :: l)).all (V.under 6) && (hpA m T seen x y (z :: l)).all (Blk.under 6)) = true := by
  show (true && (true && (Blk.under 6 (fsB T) && (true && (true && (true && ((mdsV (z :: l)).flatten.all (V.under 6) && true))))))) = true
  rw [fs_under, flat_under]
  rfl
theorem flat_snoc (l : List Md) (x : Md) : (mdsV (l ++ [x])).flatten = (mdsV l).flatten ++ mdC x := by simp [mdsV]
theorem Sem.res {P : Program} {g : FuncId} {args : List V} {h : Heap} {K : V → Heap → Prop} (k : Go.Cx.Sem P g args h fun v h' => ∃ u, forgT1 v u ∧ K u h') : Go.Cx.Sem P g args h K :=
  ⟨fun φ μ B w cargs hB r ha => (k.run φ μ B w cargs hB r ha).mono fun _ _ ⟨_, h', φ', μ', cv, e1, ⟨u, hf, hK⟩, hv, rest⟩ => ⟨u, h', φ', μ', cv, e1, hK, forgT1_ok hv hf, rest⟩⟩
theorem all_fn (m : BitVec 16) (hg : goodM m) : Fn Try.prog 16 [wV m.toNat] (.psl 2 (mdsV (allOf m)) .any) := by
  refine ⟨rfl, rfl, ?_⟩
  by_cases hm0 : m = 0
  · subst hm0
    have e : allOf 0 = [] := by decide
    rw [e]
    refine Sem.res (Sem.of_body tysOk md0 Try.func16 rfl rfl ?_)
    refine BCase.yes rfl ?_
    exact ⟨_, .inr (.inr (.inr ⟨rfl, 2, rfl⟩)), rfl⟩
  refine Sem.freeze (l := allOf m) ?_
  refine Sem.of_Wp tysOk Try.func16 rfl rfl ?_
  refine Wp.seq (Wp.of (md := md7) tysOk ?_)
  conv => whnf
  refine Wp.seq (Wp.of (md := md7) tysOk ?_)
  refine BCase.no (by have := eq16 m 0; have h2 : (m == 0) = false := beq_eq_false_iff_ne.2 hm0; rw [h2] at this; rw [show ((m.toNat : Int) == 0) = false from this]; rfl) ?_
  conv => whnf
  refine Wp.seq (Wp.seq (Wp.of (md := md7) tysOk ?_))
  refine Sem.unmap (Sem.of_body tysOk md0 Try.func32 rfl rfl (DrawP.intro tysOk mixed false ⟨by kernel_rfl, 1, 13, keyT.map fun e => (kV e, bV e), rfl, fun fs h1 h2 h3 => ?_⟩))
  obtain ⟨T, rfl, hT⟩ := ents_of h1
  conv => whnf
  refine Wp.block (Wp.loop (fun k env h => ∃ (D R : List Ent) (x y : Md), k = R.length ∧ (D ++ R).Perm T ∧ env = envA m (accOf m D) ∧ h = hpA m T (D.map fun p => p.2) x y (accOf m D)) 13 ⟨envA m [], hpA m T [] ⟨false, 0⟩ ⟨false, 0⟩ [], .of_forgE (by repeat (first | exact trivial | refine ⟨.inl rfl, ?_⟩ | refine ⟨.inr rfl, ?_⟩)), [], T, ⟨false, 0⟩, ⟨false, 0⟩, by have := hT.length_eq; rw [List.length_map] at this; exact this.symm, .refl _, rfl, rfl⟩ ?_)
  rintro k _ _ ⟨D, R, x, y, rfl, hDR, rfl, rfl⟩
  have hb2 : (T.map fun p => p.2).Nodup := by rw [List.map_map] at h2; exact h2
  have hnd : ((D ++ R).map fun p => p.2).Nodup := ((hDR.map fun p => p.2).nodup_iff).2 hb2
  have hTl : T.length = 13 := by have := hT.length_eq; rw [List.length_map] at this; exact this
  have hDl : (accOf m D).length ≤ 13 := by
    unfold accOf
    rw [List.length_map]
    refine Nat.le_trans (List.length_filter_le _ _) ?_
    have := hDR.length_eq
    rw [List.length_append] at this
    omega
  have hdone : (∀ e ∈ T.map entV, e.2.2 ∈ D.map fun p => p.2) → D.Perm T := fun hd => by
    cases R with
    | nil => rw [List.append_nil] at hDR; exact hDR
    | cons r R =>
      exfalso
      have hr : r ∈ T := (hDR.mem_iff).1 (by simp)
      have h4 := hd (entV r) (List.mem_map_of_mem hr)
      rw [List.map_append, List.nodup_append] at hnd
      exact hnd.2.2 _ h4 r.2 (by simp) rfl
  have hnext : ∀ p ∈ T, p.2 ∉ (D.map fun p => p.2) → ∃ R', R'.length < R.length ∧ ((D ++ [p]) ++ R').Perm T := fun p hp hn => by
    have hpR : p ∈ R := by
      rcases List.mem_append.1 ((hDR.mem_iff).2 hp) with h | h
      · exact absurd (List.mem_map_of_mem (f := fun p : Ent => p.2) h) hn
      · exact h
    refine ⟨R.erase p, ?_, ?_⟩
    · rw [List.length_erase_of_mem hpR]
      have := List.length_pos_of_mem hpR
      omega
    · refine List.Perm.trans ?_ hDR
      rw [List.append_assoc]
      exact (List.perm_cons_erase hpR).symm.append_left D
  refine Wp.seq (Wp.reg tysOk md7 ?_)
  cases hacc : accOf m D with
  | nil =>
    refine regP_next (seen := D.map fun p => p.2) (es := T.map entV) (clock := 13) (mid := 1) rfl rfl rfl rfl rfl rfl h3 (fun hd => ?_) (fun e he hne => ?_)
    · exfalso
      have := sort_all m D T (hdone hd) hT
      rw [hacc] at this
      exact all_ne m hg hm0 (this.symm.trans (by unfold sortM; simp))
    · obtain ⟨p, hp, rfl⟩ := List.mem_map.1 he
      obtain ⟨R', hR1, hR2⟩ := hnext p hp hne
      conv => whnf
      refine Wp.seq (Wp.of (md := md7) tysOk ?_)
      refine BCase.yes rfl ?_
      conv => whnf
      refine Wp.block (Wp.seq (Wp.reg tysOk md7 ?_))
      refine regP_entry (e := entV p) (seen := D.map fun p => p.2) (es := T.map entV) (clock := 13) (mid := 1) rfl rfl rfl rfl rfl rfl h2 he ?_
      conv => whnf
      refine Wp.of (md := md7) tysOk ?_
      have hpk : p.1.2.2 < 16 := by
        have := key_lt ((hT.mem_iff).1 (List.mem_map_of_mem (f := fun p : Ent => p.1) hp))
        omega
      have hsn := accOf_snoc m D p
      rw [hacc, List.nil_append] at hsn
      refine ⟨fun hb => ?_, fun hb => ?_⟩
      · rw [test16 m hpk] at hb
        rw [hb, if_pos rfl] at hsn
        refine ⟨R'.length, envA m [⟨p.1.1, p.1.2.1⟩], hpA m T ((D.map fun p => p.2) ++ [p.2]) ⟨p.1.1, p.1.2.1⟩ ⟨p.1.1, p.1.2.1⟩ [⟨p.1.1, p.1.2.1⟩], hR1, .of_forgE (by repeat (first | exact trivial | refine ⟨.inl rfl, ?_⟩ | refine ⟨.inr rfl, ?_⟩)), D ++ [p], R', _, _, rfl, hR2, by rw [hsn], by rw [hsn, List.map_append]; rfl⟩
      · rw [test16 m hpk] at hb
        rw [if_neg (by rw [hb]; simp)] at hsn
        refine ⟨R'.length, envA m [], hpA m T ((D.map fun p => p.2) ++ [p.2]) ⟨p.1.1, p.1.2.1⟩ ⟨p.1.1, p.1.2.1⟩ [], hR1, .cut [_] (forgT_of _ _ (by repeat (first | exact trivial | refine ⟨.inl rfl, ?_⟩ | refine ⟨.inr rfl, ?_⟩))) (by show 3 ≤ 3; omega) (dropH_refl _) ?_, D ++ [p], R', ⟨p.1.1, p.1.2.1⟩, ⟨p.1.1, p.1.2.1⟩, rfl, hR2, by rw [hsn], by rw [hsn, List.map_append]; rfl⟩
        show (_ && (_ && (Blk.under 3 (fsB T) && _))) = true
        rw [fs_under]
        rfl
  | cons z l =>
    have hll : l.length + 1 ≤ 13 := by rw [hacc] at hDl; exact hDl
    refine regP_next (seen := D.map fun p => p.2) (es := T.map entV) (clock := 13) (mid := 1) rfl rfl rfl rfl rfl rfl h3 (fun hd => ?_) (fun e he hne => ?_)
    · have hsa := sort_all m D T (hdone hd) hT
      rw [hacc] at hsa
      conv => whnf
      refine Wp.of (md := md7) tysOk ?_
      refine BCase.no rfl ?_
      conv => whnf
      refine Wp.of (md := md7) tysOk ?_
      refine sort_sem (l := z :: l) (e := 24) (sz := 2) rfl (by show l.length + 1 < 1000000; omega) ?_
      rw [hsa]
      have hlen : (allOf m).length = l.length + 1 := by rw [← hsa, sort_len]; rfl
      exact ⟨5, l.length, l.length + 1, 2, false, 24, by rw [hlen], rfl, rfl⟩
    · obtain ⟨p, hp, rfl⟩ := List.mem_map.1 he
      obtain ⟨R', hR1, hR2⟩ := hnext p hp hne
      conv => whnf
      refine Wp.seq (Wp.of (md := md7) tysOk ?_)
      refine BCase.yes rfl ?_
      conv => whnf
      refine Wp.block (Wp.seq (Wp.reg tysOk md7 ?_))
      refine regP_entry (e := entV p) (seen := D.map fun p => p.2) (es := T.map entV) (clock := 13) (mid := 1) rfl rfl rfl rfl rfl rfl h2 he ?_
      conv => whnf
      have hpk : p.1.2.2 < 16 := by
        have := key_lt ((hT.mem_iff).1 (List.mem_map_of_mem (f := fun p : Ent => p.1) hp))
        omega
      have hsn := accOf_snoc m D p
      rw [hacc] at hsn
      refine Wp.seq (Wp.of (md := md7) tysOk ?_)
      conv => whnf
      refine Wp.cond rfl (fun hb => ?_) (fun hb => ?_)
      · rw [test16 m hpk] at hb
        rw [hb, if_pos rfl] at hsn
        refine Wp.reg tysOk md7 ?_
        refine regP_val _ (outA (z :: l)) rfl rfl (fun _ => rfl) rfl ?_
        refine regP_val _ (Md.v ⟨p.1.1, p.1.2.1⟩) rfl rfl (fun _ => rfl) rfl ?_
        refine regP_op (h' := [wB m.toNat, fsB T, itB ((D.map fun p => p.2) ++ [p.2]), some (.cells 24 (mdC x)), some (.cells 24 (mdC y)), some (.grow l.length 24 2 (mdsV (z :: l)).flatten), some (.cells 24 (mdC ⟨p.1.1, p.1.2.1⟩)), some (.cells 24 (mdC ⟨p.1.1, p.1.2.1⟩))]) (.lsl 7 2 0 1 1) rfl rfl (fun _ hk => hk) ?_
        refine regP_op (h' := [wB m.toNat, fsB T, itB ((D.map fun p => p.2) ++ [p.2]), some (.cells 24 (mdC x)), some (.cells 24 (mdC y)), some (.grow (l.length + 1) 24 2 ((mdsV (z :: l)).flatten ++ mdC ⟨p.1.1, p.1.2.1⟩)), some (.cells 24 (mdC ⟨p.1.1, p.1.2.1⟩)), some (.cells 24 (mdC ⟨p.1.1, p.1.2.1⟩))]) (.gsl 5 2 0 (l.length + 1 + 1) (l.length + 1 + 1) false (l.length + 1)) rfl rfl (fun K' hk => ?_) ?_
        · change opN Try.prog TT true _ _ _ (.call { callee := .builtin .append, args := #[.tmp 20, .tmp 22], argTypes := #[37, 37] })
          unfold opN
          rw [natL_eq]
          rw [append_own (id := 5) (id2 := 7) (n := l.length + 1) (ver := l.length) (e2 := 24) (cs := (mdsV (z :: l)).flatten) (y := ⟨p.1.1, p.1.2.1⟩) rfl rfl rfl rfl (by rw [flat_len]; simp; omega) (by omega)]
          exact hk
        conv => whnf
        refine ⟨R'.length, envA m (z :: (l ++ [⟨p.1.1, p.1.2.1⟩])), hpA m T ((D.map fun p => p.2) ++ [p.2]) x y (z :: (l ++ [⟨p.1.1, p.1.2.1⟩])), hR1, .cut [some (.cells 24 (mdC ⟨p.1.1, p.1.2.1⟩)), some (.cells 24 (mdC ⟨p.1.1, p.1.2.1⟩))] (forgT_of _ _ ?_) (by show 3 ≤ 6; omega) ?_ (underB _ _ _ _ _ _ _), D ++ [p], R', x, y, rfl, hR2, by rw [hsn]; rfl, by rw [hsn, List.map_append]; rfl⟩
        · refine ⟨.inl rfl, .inl rfl, .inl ?_, ?_⟩
          · show V.gsl 5 2 0 ((l ++ [_]).length + 1) ((l ++ [_]).length + 1) false (l ++ [_]).length = V.gsl 5 2 0 (l.length + 1 + 1) (l.length + 1 + 1) false (l.length + 1)
            rw [List.length_append, List.length_singleton]
          · repeat (first | exact trivial | refine ⟨.inl rfl, ?_⟩ | refine ⟨.inr rfl, ?_⟩)
        · refine ⟨.inl rfl, .inl rfl, .inl rfl, .inl rfl, .inl rfl, .inl ?_, .inl rfl, .inl rfl, trivial⟩
          show some (Blk.grow (l ++ [_]).length 24 2 (mdsV ((z :: l) ++ [_])).flatten) = _
          rw [flat_snoc, List.length_append, List.length_singleton]
      · rw [test16 m hpk] at hb
        rw [if_neg (by rw [hb]; simp), List.append_nil] at hsn
        refine Wp.of (md := md7) tysOk ?_
        refine ⟨R'.length, envA m (z :: l), hpA m T ((D.map fun p => p.2) ++ [p.2]) x y (z :: l), hR1, .cut [_] (forgT_of _ _ (by repeat (first | exact trivial | refine ⟨.inl rfl, ?_⟩ | refine ⟨.inr rfl, ?_⟩))) (by show 3 ≤ 6; omega) (dropH_refl _) (underB _ _ _ _ _ _ _), D ++ [p], R', x, y, rfl, hR2, by rw [hsn], by rw [hsn, List.map_append]; rfl⟩
end Go.Cx
namespace Go.Cx
open Go.Proofs Go.RowKit
set_option maxRecDepth 100000
set_option maxHeartbeats 4000000
theorem Sem.argT {P : Program} {g : FuncId} {args args' : List V} {h : Heap} {K : V → Heap → Prop} (hl : args'.length = args.length) (hf : ∀ j, forgT1 (args.getD j .undef) (args'.getD j .undef)) (k : Go.Cx.Sem P g args' h K) : Go.Cx.Sem P g args h K :=
  ⟨fun φ μ B w cargs hB r ha => k.run φ μ B w cargs hB r ⟨hl.trans ha.1, fun j => forgT1_ok (ha.2 j) (hf j)⟩⟩
/-- A part that the kernel computes at once. -/
theorem Wp.eq {P : Program} {T : Nat → Option TI} {md : Nat → Bool} {c : Code} {env : List V} {h : Heap} {Q : X → List V → Heap → Prop} (hT : TOk P T) (env' : List V) (h' : Heap) (e : wpC P T md c env h Q = Q .normal env' h') (hk : Q .normal env' h') : Wp P T c env h Q :=
  Wp.of (md := md) hT (by rw [e]; exact hk)
/-! ### near -/
def nearL : List Int := [1, 4, 5, 6, 7, 20, 25, 47, 1004, 1047, 1048, 1049, 2004]
def colV (c : Int) : List V := [.int .i64 c]
def nearOf (x : Md) : Md := if 0 ≤ x.n ∧ x.n < 26 then ⟨x.p, nearL.getD (x.n % 13).toNat 0⟩ else x
theorem near_fn (x : Md) : Fn Try.prog 11 [x.v] (nearOf x).v := by
  obtain ⟨y, hy⟩ : ∃ y, y = nearOf x := ⟨_, rfl⟩
  rw [← hy]
  unfold nearOf at hy
  refine ⟨rfl, rfl, Sem.of_Wp tysOk Try.func11 rfl rfl ?_⟩
  refine Wp.seq (Wp.of (md := md0) tysOk ?_)
  conv => whnf
  refine Wp.seq (Wp.eq (md := md0) tysOk (x.v :: .ptr 0 0 :: .ptr 1 0 :: .psl 1 (nearL.map colV) .exact :: .psl 1 (nearL.map colV) .exact :: List.replicate 16 .undef) [some (.cells 24 (mdC x)), some (.cells 24 (mdC ⟨false, 0⟩))] (by kernel_rfl) ?_)
  conv => whnf
  refine Wp.of (md := md0) tysOk ?_
  refine ⟨fun h => ?_, fun h => ?_⟩
  · have h0 : 0 ≤ x.n := of_decide_eq_true h
    repeat (first | refine BCase.yes rfl ?_ | refine BCase.no rfl ?_)
    refine ⟨fun h2 => ?_, fun h2 => ?_⟩
    · have h3 : x.n < 26 := of_decide_eq_true h2
      have em : x.n.tmod 13 = x.n % 13 := Int.tmod_eq_emod_of_nonneg h0
      have hlt : (x.n.tmod 13).toNat < nearL.length := by rw [em]; show (x.n % 13).toNat < 13; omega
      obtain ⟨c, hc⟩ : ∃ c, nearL[(x.n.tmod 13).toNat]? = some c := ⟨_, List.getElem?_eq_getElem hlt⟩
      have hg : (nearL.map colV)[(x.n.tmod 13).toNat]? = some (colV c) := by rw [List.getElem?_map, hc]; rfl
      rw [if_pos ⟨h0, h3⟩, ← em, List.getD_eq_getElem?_getD, hc] at hy
      refine ⟨colV c, ⟨by rw [em]; omega, hg⟩, ?_⟩
      subst hy
      rfl
    · rw [if_neg (fun e => of_decide_eq_false h2 e.2)] at hy
      subst hy
      rfl
  · repeat (first | refine BCase.yes rfl ?_ | refine BCase.no rfl ?_)
    rw [if_neg (fun e => of_decide_eq_false h e.1)] at hy
    subst hy
    rfl
/-! ### row -/
def rowOf (l : List Md) : List Md := (l.take 20).map nearOf
def outR (i : Nat) (l : List Md) : V := match i with | 0 => .nils | _ => .psl 2 (mdsV l) (.own 0)
def hpR (i : Nat) : Heap := match i with | 0 => [] | _ => [some (.token 2 i)]
def envR (l : List Md) (i : Nat) : List V := .psl 2 (mdsV l) .any :: .undef :: .nils :: outR i ((l.take i).map nearOf) :: .int .i64 (i : Nat) :: List.replicate 19 .undef
theorem take_snoc {l : List Md} {i : Nat} {x : Md} (hx : l[i]? = some x) : (l.take (i + 1)).map nearOf = (l.take i).map nearOf ++ [nearOf x] := by
  rw [List.take_add_one, hx]; simp
theorem row_fn (l : List Md) (_hl : l.length < 9223372036854775808) : Fn Try.prog 21 [.psl 2 (mdsV l) .any] (.psl 2 (mdsV (rowOf l)) .any) := by
  refine ⟨rfl, rfl, Sem.res (Sem.of_body tysOk md0 Try.func21 rfl rfl ?_)⟩
  have hll := mdsV_len l
  refine LoopP.inv (md := md0) (fun k env h => ∃ (i : Nat), k = 20 - i ∧ i ≤ l.length ∧ i ≤ 20 ∧ env = envR l i ∧ h = hpR i) 20 ⟨envR l 0, _, .same (by repeat (first | exact trivial | refine ⟨.inl rfl, ?_⟩ | refine ⟨.inr rfl, ?_⟩)) rfl, 0, rfl, Nat.zero_le _, Nat.zero_le _, rfl, rfl⟩ ?_
  rintro k _ _ ⟨i, rfl, hil, hi20, rfl, rfl⟩
  have done : (20 ≤ i ∨ l.length ≤ i) → rowOf l = (l.take i).map nearOf := fun h => by
    unfold rowOf
    rcases h with h | h
    · rw [show i = 20 by omega]
    · rw [List.take_of_length_le (by omega), List.take_of_length_le (by omega)]
  cases i with
  | zero =>
    refine ⟨fun h => ?_, fun h => ?_⟩
    · have hl0 : 0 < l.length := by have := of_decide_eq_true h; omega
      repeat (first | refine BCase.yes rfl ?_ | refine BCase.no rfl ?_)
      obtain ⟨x, hx⟩ : ∃ x, l[0]? = some x := ⟨_, List.getElem?_eq_getElem hl0⟩
      refine ⟨mdC x, ⟨by omega, mdsV_get hx⟩, ?_⟩
      refine (near_fn x).sem _ ?_
      have ht := take_snoc hx
      refine ⟨19, envR l 1, hpR 1, by omega, .same ?_ rfl, 1, rfl, hl0, by omega, rfl, rfl⟩
      refine ⟨.inl rfl, .inl rfl, .inl rfl, .inl ?_, .inl rfl, ?_⟩
      · show V.psl 2 (mdsV ((l.take 1).map nearOf)) (.own 0) = _
        rw [ht]; rfl
      · repeat (first | exact trivial | refine ⟨.inl rfl, ?_⟩ | refine ⟨.inr rfl, ?_⟩)
    · have hl0 : l.length ≤ 0 := by have := of_decide_eq_false h; omega
      repeat (first | refine BCase.yes rfl ?_ | refine BCase.no rfl ?_)
      refine ⟨_, .inr (.inr (.inr ⟨rfl, 2, rfl⟩)), ?_⟩
      rw [done (.inr hl0)]
      rfl
  | succ i =>
    have hlen : (mdsV ((l.take (i + 1)).map nearOf)).length = i + 1 := by rw [mdsV_len, List.length_map, List.length_take]; omega
    refine ⟨fun h => ?_, fun h => ?_⟩
    · have hl1 : i + 1 < l.length := by have := of_decide_eq_true h; omega
      repeat (first | refine BCase.yes rfl ?_ | refine BCase.no rfl ?_)
      refine ⟨fun h => ?_, fun h => ?_⟩
      · have h20 : i + 1 < 20 := by have := of_decide_eq_true h; omega
        obtain ⟨x, hx⟩ : ∃ x, l[i + 1]? = some x := ⟨_, List.getElem?_eq_getElem hl1⟩
        refine ⟨mdC x, ⟨by omega, mdsV_get hx⟩, ?_⟩
        refine (near_fn x).sem _ ?_
        have ht := take_snoc hx
        refine gdP ?_ ?_
        · show (Nat.beq 2 2 && Nat.beq 2 2 && Nat.beq (i + 1) (mdsV ((l.take (i + 1)).map nearOf)).length && (Nat.blt 0 2 && Nat.blt 0 16 && Nat.ble (((mdsV ((l.take (i + 1)).map nearOf)).length + 1) * (2 * 16)) 281474976710656)) = true
          rw [hlen]
          simp only [Bool.and_eq_true]
          exact ⟨⟨⟨rfl, rfl⟩, Nat.beq_refl _⟩, ⟨rfl, rfl⟩, Nat.ble_eq_true_of_le (by omega)⟩
        refine ⟨20 - (i + 2), envR l (i + 2), hpR (i + 2), by omega, .same ?_ ?_, i + 2, rfl, hl1, by omega, rfl, rfl⟩
        · refine ⟨.inl rfl, .inl rfl, .inl rfl, .inl ?_, .inl ?_, ?_⟩
          · show V.psl 2 (mdsV ((l.take (i + 2)).map nearOf)) (.own 0) = _
            rw [ht]
            exact congrArg (fun z => V.psl 2 z (.own 0)) (by simp [mdsV]; rfl)
          · exact congrArg (V.int .i64) (wrs (i + 1) 1 (by omega))
          · repeat (first | exact trivial | refine ⟨.inl rfl, ?_⟩ | refine ⟨.inr rfl, ?_⟩)
        · exact congrArg (fun n => [some (Blk.token 2 n)]) (show i + 2 = (mdsV ((l.take (i + 1)).map nearOf)).length + 1 by rw [hlen])
      · have h20 : 20 ≤ i + 1 := by have := of_decide_eq_false h; omega
        refine ⟨_, .inr (.inr (.inl ⟨_, _, _, rfl, rfl⟩)), ?_⟩
        rw [done (.inl h20)]
    · repeat (first | refine BCase.yes rfl ?_ | refine BCase.no rfl ?_)
      have hl1 : l.length ≤ i + 1 := by have := of_decide_eq_false h; omega
      refine ⟨_, .inr (.inr (.inl ⟨_, _, _, rfl, rfl⟩)), ?_⟩
      rw [done (.inr hl1)]
end Go.Cx
namespace Go.Cx
open Go.Proofs Go.RowKit
set_option maxRecDepth 100000
set_option maxHeartbeats 4000000
structure Ac where
  what : Int
  l : List Md
def Ac.cs (a : Ac) : List V := [.int .u8 a.what, .psl 2 (mdsV a.l) .any]
structure Ac.ok (a : Ac) : Prop where
  w0 : 0 ≤ a.what
  w1 : a.what < 256
  len : a.l.length < 9223372036854775808
def actsV (l : List Ac) : List (List V) := l.map Ac.cs
theorem actsV_len (l : List Ac) : (actsV l).length = l.length := by simp [actsV]
theorem actsV_get {l : List Ac} {i : Nat} {a : Ac} (h : l[i]? = some a) : (actsV l)[i]? = some a.cs := by simp [actsV, h]
def onOf (a : Ac) : Bool := decide (a.what.tmod 8 < 4)
def doesOf (m : BitVec 16) (a : Ac) : BitVec 16 := if a.what.tmod 8 == 7 then softOf m else (putOf (onOf a) m (rowOf a.l)).1
def playedOf (l : List Ac) : BitVec 16 := (l.take 40).foldl doesOf 96#16
theorem rowOf_len (l : List Md) : (rowOf l).length ≤ 20 := by unfold rowOf; rw [List.length_map, List.length_take]; omega
def envL (l : List Ac) (i : Int) : List V := .psl 2 (actsV l) .any :: .undef :: .ptr 0 0 :: .ptr 1 0 :: .int .i64 i :: List.replicate 39 .undef
theorem drop_take_fold {α β : Type} (f : β → α → β) (l : List α) (n i : Nat) (c : α) (h : l[i]? = some c) (hn : i < n) (m : β) : ((l.take n).drop i).foldl f m = ((l.take n).drop (i + 1)).foldl f (f m c) := by
  refine drop_fold f (l.take n) i c ?_ m
  rw [List.getElem?_take_of_lt hn]; exact h
theorem played_fn (l : List Ac) (hl : ∀ a ∈ l, a.ok) (_hll : l.length < 9223372036854775808) : Fn Try.prog 9 [.psl 2 (actsV l) .any] (wV (playedOf l).toNat) := by
  obtain ⟨r, hr⟩ : ∃ r, r = playedOf l := ⟨_, rfl⟩
  rw [← hr]
  have hal := actsV_len l
  refine Fn.of_body tysOk md0 Try.func9 rfl rfl rfl rfl ?_
  refine new_fn.sem _ ?_
  refine LoopP.inv (md := md0) (fun k env h => ∃ (i : Nat) (m : BitVec 16), k = 40 - i ∧ i ≤ l.length ∧ i ≤ 40 ∧ ((l.take 40).drop i).foldl doesOf m = playedOf l ∧ env = envL l i ∧ h = [wB 0, wB m.toNat]) 40 ⟨envL l 0, _, .same (by repeat (first | exact trivial | refine ⟨.inl rfl, ?_⟩ | refine ⟨.inr rfl, ?_⟩)) rfl, 0, 96#16, rfl, Nat.zero_le _, Nat.zero_le _, rfl, rfl, rfl⟩ ?_
  rintro k _ _ ⟨i, m, rfl, hil, hi40, hf, rfl, rfl⟩
  have fin : (40 ≤ i ∨ l.length ≤ i) → m = r := fun h => by
    rw [hr, ← hf, List.drop_of_length_le (by rw [List.length_take]; omega)]; rfl
  refine ⟨fun h => ?_, fun h => ?_⟩
  · have hi' : i < l.length := by have := of_decide_eq_true h; omega
    repeat (first | refine BCase.yes rfl ?_ | refine BCase.no rfl ?_)
    refine ⟨fun h40 => ?_, fun h40 => ?_⟩
    · have h40' : i < 40 := by have := of_decide_eq_true h40; omega
      obtain ⟨a, ha⟩ : ∃ a, l[i]? = some a := ⟨_, List.getElem?_eq_getElem hi'⟩
      have hao := hl a (List.mem_of_getElem? ha)
      rw [drop_take_fold _ _ _ _ _ ha h40'] at hf
      refine ⟨a.cs, ⟨by omega, actsV_get ha⟩, ?_⟩
      refine ⟨fun h7 => ?_, fun h7 => ?_⟩
      · refine (soft_fn m).sem _ ?_
        have hd : doesOf m a = softOf m := by unfold doesOf; rw [if_pos h7]
        rw [hd] at hf
        refine ⟨40 - (i + 1), envL l (i + 1 : Nat), [wB 0, wB (softOf m).toNat], by omega, .same ?_ rfl, i + 1, softOf m, rfl, hi', h40', hf, rfl, rfl⟩
        refine ⟨.inl rfl, .inl rfl, .inl rfl, .inl rfl, .inl ?_, ?_⟩
        · exact congrArg (V.int .i64) (wrs i 1 (by omega))
        · repeat (first | exact trivial | refine ⟨.inl rfl, ?_⟩ | refine ⟨.inr rfl, ?_⟩)
      · have hd : doesOf m a = (putOf (onOf a) m (rowOf a.l)).1 := by unfold doesOf; rw [if_neg (by rw [h7]; simp)]
        rw [hd] at hf
        have hrl := rowOf_len a.l
        refine DrawP.intro tysOk mixed false ?_
        refine ⟨a.cs, ⟨by omega, actsV_get ha⟩, ?_⟩
        refine ⟨a.cs, ⟨by omega, actsV_get ha⟩, ?_⟩
        refine ⟨_, (row_fn a.l hao.len).callT _ _, ?_⟩
        refine ⟨_, (put_fn (onOf a) m (rowOf a.l) (by omega)).callT _ _, ?_⟩
        refine ⟨by kernel_rfl, ?_⟩
        refine ⟨40 - (i + 1), envL l (i + 1 : Nat), [wB 0, wB (putOf (onOf a) m (rowOf a.l)).1.toNat], by omega, .same ?_ rfl, i + 1, _, rfl, hi', h40', hf, rfl, rfl⟩
        refine ⟨.inl rfl, .inl rfl, .inl rfl, .inl rfl, .inl ?_, ?_⟩
        · exact congrArg (V.int .i64) (wrs i 1 (by omega))
        · repeat (first | exact trivial | refine ⟨.inl rfl, ?_⟩ | refine ⟨.inr rfl, ?_⟩)
    · rw [fin (.inl (by have := of_decide_eq_false h40; omega))]
      rfl
  · repeat (first | refine BCase.yes rfl ?_ | refine BCase.no rfl ?_)
    rw [fin (.inr (by have := of_decide_eq_false h; omega))]
    rfl
/-! ### set, works -/
def exV (l : List Md) : V := .psl 2 (mdsV l) .exact
def envT (m : BitVec 16) (l : List Md) (i : Int) : List V := wV m.toNat :: .psl 2 (mdsV l) .any :: .ptr 0 0 :: .undef :: .bool false :: .psl 2 (mdsV l) .any :: .int .i64 i :: List.replicate 22 .undef
theorem set_fn (m : BitVec 16) (hg : goodM m) (l : List Md) (h : allOf m = l) (hl : l.length < 1000000) : Fn Try.prog 31 [wV m.toNat, exV l] (.bool true) := by
  refine ⟨rfl, rfl, Sem.argT (args' := [wV m.toNat, .psl 2 (mdsV l) .any]) rfl (fun j => ?_) ?_⟩
  · match j with
    | 0 => exact .inl rfl
    | 1 => exact .inr (.inr (.inl ⟨_, _, _, rfl, rfl⟩))
    | j + 2 => exact .inl rfl
  have hml := mdsV_len l
  refine Sem.of_body tysOk md0 Try.func31 rfl rfl ?_
  refine (all_fn m hg).sem _ ?_
  rw [h]
  refine BCase.no (by simp) ?_
  refine LoopP.inv (md := md0) (fun k env h => ∃ (i : Nat), k = l.length - i ∧ i ≤ l.length ∧ env = envT m l i ∧ h = [wB m.toNat]) l.length ⟨envT m l 0, _, .same (by repeat (first | exact trivial | refine ⟨.inl rfl, ?_⟩ | refine ⟨.inr rfl, ?_⟩)) rfl, 0, rfl, Nat.zero_le _, rfl, rfl⟩ ?_
  rintro k _ _ ⟨i, rfl, hi, rfl, rfl⟩
  refine ⟨fun h => ?_, fun h => ?_⟩
  · have hi' : i < l.length := by have := of_decide_eq_true h; omega
    obtain ⟨c, hc⟩ : ∃ c, l[i]? = some c := ⟨_, List.getElem?_eq_getElem hi'⟩
    refine DrawP.intro tysOk mixed false ?_
    refine ⟨_, ⟨by omega, mdsV_get hc⟩, ?_⟩
    refine ⟨_, ⟨by omega, mdsV_get hc⟩, ?_⟩
    refine ⟨by kernel_rfl, ?_⟩
    refine BCase.no (by simp) ?_
    refine ⟨l.length - (i + 1), envT m l (i + 1 : Nat), [wB m.toNat], by omega, .same ?_ rfl, i + 1, rfl, hi', rfl, rfl⟩
    refine ⟨.inl rfl, .inl rfl, .inl rfl, .inl rfl, .inl rfl, .inl rfl, .inl ?_, ?_⟩
    · exact congrArg (V.int .i64) (wrs i 1 (by omega))
    · repeat (first | exact trivial | refine ⟨.inl rfl, ?_⟩ | refine ⟨.inr rfl, ?_⟩)
  · rfl
theorem putE_fn (on : Bool) (m : BitVec 16) (l : List Md) (hl : l.length < 1000000) : Fn Try.prog 17 [wV m.toNat, .bool on, exV l] (.tup [wV (putOf on m l).1.toNat, .int .i64 ((putOf on m l).2 : Nat)]) :=
  ⟨rfl, rfl, Sem.argT (args' := [wV m.toNat, .bool on, .psl 2 (mdsV l) .any]) rfl (fun j => by
    match j with
    | 0 => exact .inl rfl
    | 1 => exact .inl rfl
    | 2 => exact .inr (.inr (.inl ⟨_, _, _, rfl, rfl⟩))
    | j + 3 => exact .inl rfl) (put_fn on m l hl).run⟩
/-! ### Bits -/
theorem bOf_good (x : Md) : goodM (bOf x) := fun k hk => by
  unfold bOf
  rcases kOf_cases x with h | ⟨e, he, _, h⟩
  · rw [h]; simp
  · rw [h]
    have := key_lt he
    simp only [BitVec.getLsbD_twoPow]
    simp; omega
theorem putB_good {on : Bool} {m b : BitVec 16} (hm : goodM m) (hb : goodM b) : goodM (putB on m b) := fun k hk => by
  unfold putB
  split <;> simp [BitVec.getLsbD_or, BitVec.getLsbD_and, hm k hk, hb k hk]
theorem putS_good {on : Bool} {s : BitVec 16 × Nat} {x : Md} (hm : goodM s.1) : goodM (putS on s x).1 := by
  unfold putS
  split
  · exact putB_good hm (bOf_good x)
  · exact hm
theorem putOf_good {on : Bool} {m : BitVec 16} (l : List Md) (hm : goodM m) : goodM (putOf on m l).1 := by
  unfold putOf
  have : ∀ (l : List Md) (s : BitVec 16 × Nat), goodM s.1 → goodM (l.foldl (putS on) s).1 := by
    intro l
    induction l with
    | nil => intro s h; exact h
    | cons x l ih => intro s h; exact ih _ (putS_good h)
  exact this l _ hm
theorem lit_good (m : BitVec 16) (h : m &&& 63488#16 = 0#16) : goodM m := fun k hk => by
  rcases Nat.lt_or_ge k 16 with h2 | h2
  · have := congrArg (fun b => BitVec.getLsbD b k) h
    rcases (show k = 11 ∨ k = 12 ∨ k = 13 ∨ k = 14 ∨ k = 15 by omega) with rfl | rfl | rfl | rfl | rfl <;> simpa using this
  · exact BitVec.getLsbD_of_ge m k h2
theorem softOf_good {m : BitVec 16} (hm : goodM m) : goodM (softOf m) := fun k hk => by
  have h1 : goodM 96#16 := lit_good _ (by decide)
  unfold softOf
  simp [BitVec.getLsbD_or, BitVec.getLsbD_and, hm k hk, h1 k hk]
theorem new_good : goodM 96#16 := lit_good _ (by decide)
theorem played_good (l : List Ac) : goodM (playedOf l) := by
  unfold playedOf
  have : ∀ (l : List Ac) (s : BitVec 16), goodM s → goodM (l.foldl doesOf s) := by
    intro l
    induction l with
    | nil => intro s h; exact h
    | cons x l ih =>
      intro s h
      refine ih _ ?_
      unfold doesOf
      split
      · exact softOf_good h
      · exact putOf_good _ h
  exact this _ _ new_good
end Go.Cx
namespace Go.Cx
open Go.Proofs Go.RowKit
set_option maxRecDepth 100000
set_option maxHeartbeats 4000000
abbrev an (n : Int) : Md := ⟨false, n⟩
abbrev pr (n : Int) : Md := ⟨true, n⟩
theorem putL_fn (on : Bool) (m : BitVec 16) (l : List Md) (r : BitVec 16) (n : Nat) (h : putOf on m l = (r, n)) (hl : l.length < 1000000) : Fn Try.prog 17 [wV m.toNat, .bool on, exV l] (.tup [wV r.toNat, .int .i64 (n : Nat)]) := by
  have := putE_fn on m l hl
  rw [h] at this
  exact this
theorem works : Fn Try.prog 8 [] (.bool true) := by
  refine Fn.of_body tysOk md0 Try.func8 rfl rfl rfl rfl ?_
  refine new_fn.sem _ ?_
  refine DrawP.intro tysOk mixed false ?_
  refine ⟨_, (ansi_fn 4).callT _ _, ?_⟩
  refine ⟨_, (priv_fn 6).callT _ _, ?_⟩
  refine ⟨_, (priv_fn 9).callT _ _, ?_⟩
  refine ⟨_, (priv_fn 1049).callT _ _, ?_⟩
  refine ⟨_, (putL_fn true 96#16 [an 4, pr 6, pr 9, pr 1049] 241#16 3 (by decide) (by decide)).callT _ _, ?_⟩
  refine ⟨by kernel_rfl, ?_⟩
  refine DrawP.intro tysOk mixed false ?_
  refine ⟨_, (priv_fn 47).callT _ _, ?_⟩
  refine ⟨_, (putL_fn false 241#16 [pr 47] 113#16 1 (by decide) (by decide)).callT _ _, ?_⟩
  refine ⟨by kernel_rfl, ?_⟩
  refine (soft_fn 113#16).sem _ ?_
  rw [show softOf 113#16 = 96#16 by decide]
  refine DrawP.intro tysOk mixed false ?_
  refine ⟨_, (priv_fn 7).callT _ _, ?_⟩
  refine ⟨_, (priv_fn 25).callT _ _, ?_⟩
  refine ⟨_, (set_fn 96#16 new_good [pr 7, pr 25] (by decide) (by decide)).callT _ _, ?_⟩
  repeat (first | refine BCase.yes rfl ?_ | refine BCase.no rfl ?_)
  refine ⟨_, (ansi_fn 4).callT _ _, ?_⟩
  repeat (first | refine BCase.yes rfl ?_ | refine BCase.no rfl ?_)
  refine ⟨_, (priv_fn 6).callT _ _, ?_⟩
  repeat (first | refine BCase.yes rfl ?_ | refine BCase.no rfl ?_)
  refine ⟨_, (priv_fn 7).callT _ _, ?_⟩
  repeat (first | refine BCase.yes rfl ?_ | refine BCase.no rfl ?_)
  refine ⟨_, (priv_fn 25).callT _ _, ?_⟩
  repeat (first | refine BCase.yes rfl ?_ | refine BCase.no rfl ?_)
  refine ⟨_, (priv_fn 47).callT _ _, ?_⟩
  repeat (first | refine BCase.yes rfl ?_ | refine BCase.no rfl ?_)
  refine ⟨_, (priv_fn 1047).callT _ _, ?_⟩
  repeat (first | refine BCase.yes rfl ?_ | refine BCase.no rfl ?_)
  refine ⟨_, (priv_fn 1049).callT _ _, ?_⟩
  repeat (first | refine BCase.yes rfl ?_ | refine BCase.no rfl ?_)
  refine ⟨_, (set_fn 241#16 (lit_good _ (by decide)) [an 4, pr 6, pr 7, pr 25, pr 47, pr 1047, pr 1049] (by decide) (by decide)).callT _ _, ?_⟩
  repeat (first | refine BCase.yes rfl ?_ | refine BCase.no rfl ?_)
  refine ⟨_, (ansi_fn 4).callT _ _, ?_⟩
  repeat (first | refine BCase.yes rfl ?_ | refine BCase.no rfl ?_)
  refine ⟨_, (priv_fn 6).callT _ _, ?_⟩
  repeat (first | refine BCase.yes rfl ?_ | refine BCase.no rfl ?_)
  refine ⟨_, (priv_fn 7).callT _ _, ?_⟩
  repeat (first | refine BCase.yes rfl ?_ | refine BCase.no rfl ?_)
  refine ⟨_, (priv_fn 25).callT _ _, ?_⟩
  repeat (first | refine BCase.yes rfl ?_ | refine BCase.no rfl ?_)
  refine ⟨_, (set_fn 113#16 (lit_good _ (by decide)) [an 4, pr 6, pr 7, pr 25] (by decide) (by decide)).callT _ _, ?_⟩
  repeat (first | refine BCase.yes rfl ?_ | refine BCase.no rfl ?_)
  refine ⟨_, (priv_fn 7).callT _ _, ?_⟩
  repeat (first | refine BCase.yes rfl ?_ | refine BCase.no rfl ?_)
  refine ⟨_, (priv_fn 25).callT _ _, ?_⟩
  repeat (first | refine BCase.yes rfl ?_ | refine BCase.no rfl ?_)
  refine ⟨_, (set_fn 96#16 new_good [pr 7, pr 25] (by decide) (by decide)).callT _ _, ?_⟩
  repeat (first | refine BCase.yes rfl ?_ | refine BCase.no rfl ?_)
  refine ⟨_, (priv_fn 6).callT _ _, ?_⟩
  repeat (first | refine BCase.yes rfl ?_ | refine BCase.no rfl ?_)
  refine ⟨_, (state_fn 96#16 (pr 6)).callT _ _, ?_⟩
  rw [show stateOf 96#16 (pr 6) = 2 by decide]
  repeat (first | refine BCase.yes rfl ?_ | refine BCase.no rfl ?_)
  refine ⟨_, (ansi_fn 6).callT _ _, ?_⟩
  repeat (first | refine BCase.yes rfl ?_ | refine BCase.no rfl ?_)
  refine ⟨_, (state_fn 96#16 (an 6)).callT _ _, ?_⟩
  rw [show stateOf 96#16 (an 6) = 0 by decide]
  repeat (first | refine BCase.yes rfl ?_ | refine BCase.no rfl ?_)
  refine ⟨by kernel_rfl, ?_⟩
  rfl
end Go.Cx
namespace Go.Cx
open Go.Proofs Go.RowKit
set_option maxRecDepth 100000
set_option maxHeartbeats 4000000
/-! ### Modes by their bits -/
def stK (m : BitVec 16) (k : Option Nat) : Int := match k with | none => 0 | some k => if m.getLsbD k then 1 else 2
theorem kOf_lt {x : Md} {k : Nat} (h : kOf x = some k) : k < 11 := by
  rcases kOf_cases x with h2 | ⟨e, he, _, h2⟩
  · rw [h] at h2; cases h2
  · rw [h] at h2
    simp only [Option.some.injEq] at h2
    rw [h2]; exact key_lt he
theorem state_bit (m : BitVec 16) (x : Md) : stateOf m x = stK m (kOf x) := by
  unfold stateOf stK known bOf
  cases h : kOf x with
  | none => rfl
  | some k =>
    have hk := kOf_lt h
    have := and_pow m (k := k) (by omega)
    simp only [Option.isSome_some, if_true]
    by_cases hb : m.getLsbD k = true
    · rw [if_neg (this.2 hb), if_pos hb]
    · rw [if_pos (Classical.not_not.1 fun hn => hb (this.1 hn)), if_neg hb]
theorem putB_bit (on : Bool) (m : BitVec 16) {k : Nat} (hk : k < 16) (j : Nat) (hj : j < 16) : (putB on m (BitVec.twoPow 16 k)).getLsbD j = if j = k then on else m.getLsbD j := by
  unfold putB
  by_cases hjk : j = k
  · subst hjk
    cases on <;> simp [BitVec.getLsbD_or, BitVec.getLsbD_and, BitVec.getLsbD_twoPow, hj]
  · have : ¬ k = j := fun e => hjk e.symm
    cases on <;> simp [BitVec.getLsbD_or, BitVec.getLsbD_and, BitVec.getLsbD_twoPow, hj, hjk, this]
theorem putS_bit (on : Bool) (s : BitVec 16 × Nat) (x : Md) (j : Nat) (hj : j < 16) : (putS on s x).1.getLsbD j = if kOf x = some j then on else s.1.getLsbD j := by
  unfold putS known bOf
  cases h : kOf x with
  | none => simp
  | some k =>
    have hk := kOf_lt h
    simp only [Option.isSome_some, if_true]
    rw [putB_bit on s.1 (by omega) j hj]
    by_cases hjk : j = k
    · subst hjk; simp
    · have : ¬ k = j := fun e => hjk e.symm
      simp [hjk, this]
theorem putOf_bit (on : Bool) (j : Nat) (hj : j < 16) : ∀ (l : List Md) (s : BitVec 16 × Nat), (l.foldl (putS on) s).1.getLsbD j = if ∃ x ∈ l, kOf x = some j then on else s.1.getLsbD j
  | [], s => by simp
  | x :: l, s => by
    rw [List.foldl_cons, putOf_bit on j hj l, putS_bit on s x j hj]
    by_cases h1 : ∃ y ∈ l, kOf y = some j
    · rw [if_pos h1, if_pos]
      obtain ⟨y, hy, hk⟩ := h1
      exact ⟨y, by simp [hy], hk⟩
    · rw [if_neg h1]
      by_cases h2 : kOf x = some j
      · rw [if_pos h2, if_pos ⟨x, by simp, h2⟩]
      · rw [if_neg h2, if_neg]
        rintro ⟨y, hy, hk⟩
        rcases List.mem_cons.1 hy with rfl | hy
        · exact h2 hk
        · exact h1 ⟨y, hy, hk⟩
theorem putOf_cnt (on : Bool) : ∀ (l : List Md) (s : BitVec 16 × Nat), (l.foldl (putS on) s).2 = s.2 + (l.filter known).length
  | [], s => by simp
  | x :: l, s => by
    rw [List.foldl_cons, putOf_cnt on l]
    unfold putS
    cases h : known x
    · simp [h]
    · simp [h]; omega
theorem soft_bit (m : BitVec 16) (j : Nat) (hj : j < 16) : (softOf m).getLsbD j = (decide (j = 5 ∨ j = 6) || (m.getLsbD j && !decide (j = 0 ∨ j = 4))) := by
  unfold softOf
  rw [BitVec.getLsbD_or, BitVec.getLsbD_and, BitVec.getLsbD_not]
  rcases (show j = 0 ∨ j = 1 ∨ j = 2 ∨ j = 3 ∨ j = 4 ∨ j = 5 ∨ j = 6 ∨ j = 7 ∨ j = 8 ∨ j = 9 ∨ j = 10 ∨ j = 11 ∨ j = 12 ∨ j = 13 ∨ j = 14 ∨ j = 15 by omega) with rfl | rfl | rfl | rfl | rfl | rfl | rfl | rfl | rfl | rfl | rfl | rfl | rfl | rfl | rfl | rfl <;> simp
theorem soft_soft (m : BitVec 16) : softOf (softOf m) = softOf m := by
  apply BitVec.eq_of_getLsbD_eq
  intro j hj
  rw [soft_bit _ j hj, soft_bit _ j hj]
  by_cases h1 : j = 5 ∨ j = 6
  · simp [h1]
  · by_cases h2 : j = 0 ∨ j = 4
    · simp [h2]
    · simp [h1, h2]
theorem soft_is (m : BitVec 16) : isOf (softOf m) (an 4) = false ∧ isOf (softOf m) (pr 6) = false ∧ isOf (softOf m) (pr 7) = true ∧ isOf (softOf m) (pr 25) = true := by
  unfold isOf
  rw [state_bit, state_bit, state_bit, state_bit, show kOf (an 4) = some 0 by decide, show kOf (pr 6) = some 4 by decide, show kOf (pr 7) = some 5 by decide, show kOf (pr 25) = some 6 by decide]
  unfold stK
  simp only [soft_bit m 0 (by omega), soft_bit m 4 (by omega), soft_bit m 5 (by omega), soft_bit m 6 (by omega)]
  simp
theorem soft_state (m : BitVec 16) (x : Md) (h1 : x ≠ an 4) (h2 : x ≠ pr 6) (h3 : x ≠ pr 7) (h4 : x ≠ pr 25) : stateOf (softOf m) x = stateOf m x := by
  rw [state_bit, state_bit]
  cases h : kOf x with
  | none => rfl
  | some k =>
    have hk := kOf_lt h
    unfold stK
    simp only
    rw [soft_bit m k (by omega)]
    have : k ≠ 0 ∧ k ≠ 4 ∧ k ≠ 5 ∧ k ≠ 6 := by
      rcases kOf_cases x with g | ⟨e, he, hx, g⟩
      · rw [h] at g; cases g
      · rw [h] at g
        simp only [Option.some.injEq] at g
        subst g
        simp only [keyT, List.mem_cons, List.not_mem_nil, or_false] at he
        rcases he with rfl | rfl | rfl | rfl | rfl | rfl | rfl | rfl | rfl | rfl | rfl | rfl | rfl <;> first | decide | exact absurd hx h1 | exact absurd hx h2 | exact absurd hx h3 | exact absurd hx h4
    simp [this.1, this.2.1, this.2.2.1, this.2.2.2]
theorem md_eq (x y : Md) : (x.p == y.p && (x.n == y.n && true)) = decide (x = y) := by
  obtain ⟨p, n⟩ := x
  obtain ⟨q, k⟩ := y
  rw [Bool.eq_iff_iff]
  simp
end Go.Cx
namespace Go.Cx
open Go.Proofs Go.RowKit
set_option maxRecDepth 100000
set_option maxHeartbeats 8000000
theorem key_k {e : Bool × Int × Nat} (he : e ∈ keyT) : kOf ⟨e.1, e.2.1⟩ = some e.2.2 := by
  simp only [keyT, List.mem_cons, List.not_mem_nil, or_false] at he
  rcases he with rfl | rfl | rfl | rfl | rfl | rfl | rfl | rfl | rfl | rfl | rfl | rfl | rfl <;> decide
theorem mem_all {m : BitVec 16} {x : Md} (h : x ∈ allOf m) : ∃ k, kOf x = some k ∧ m.getLsbD k = true := by
  unfold allOf at h
  obtain ⟨e, he, rfl⟩ := List.mem_map.1 h
  obtain ⟨h1, h2⟩ := List.mem_filter.1 he
  exact ⟨e.2.2, key_k h1, h2⟩
theorem all_bit {m : BitVec 16} (hg : goodM m) (j : Nat) : (∃ x ∈ allOf m, kOf x = some j) ↔ m.getLsbD j = true := by
  constructor
  · rintro ⟨x, hx, hk⟩
    obtain ⟨k, h1, h2⟩ := mem_all hx
    rw [h1] at hk
    simp only [Option.some.injEq] at hk
    rw [← hk]; exact h2
  · intro hj
    have hj11 : j < 11 := by
      rcases Nat.lt_or_ge j 11 with h | h
      · exact h
      · rw [hg j h] at hj; cases hj
    have : ∃ e ∈ keyT, e.2.2 = j := by
      rcases (show j = 0 ∨ j = 1 ∨ j = 2 ∨ j = 3 ∨ j = 4 ∨ j = 5 ∨ j = 6 ∨ j = 7 ∨ j = 8 ∨ j = 9 ∨ j = 10 by omega) with rfl | rfl | rfl | rfl | rfl | rfl | rfl | rfl | rfl | rfl | rfl <;> decide
    obtain ⟨e, he, rfl⟩ := this
    exact ⟨⟨e.1, e.2.1⟩, List.mem_map.2 ⟨e, List.mem_filter.2 ⟨he, hj⟩, rfl⟩, key_k he⟩
theorem known_all {m : BitVec 16} {x : Md} (h : x ∈ allOf m) : known x = true := by
  obtain ⟨k, h1, _⟩ := mem_all h
  unfold known; rw [h1]; rfl
theorem state_all {m : BitVec 16} {x : Md} (h : x ∈ allOf m) : stateOf m x = 1 := by
  obtain ⟨k, h1, h2⟩ := mem_all h
  rw [state_bit, h1]
  unfold stK
  simp [h2]
theorem put_all {m : BitVec 16} (hg : goodM m) : putOf true 0 (allOf m) = (m, (allOf m).length) := by
  unfold putOf
  refine Prod.ext ?_ ?_
  · apply BitVec.eq_of_getLsbD_eq
    intro j hj
    rw [putOf_bit true j hj]
    by_cases h : ∃ x ∈ allOf m, kOf x = some j
    · rw [if_pos h, (all_bit hg j).1 h]
    · rw [if_neg h]
      have : m.getLsbD j = false := by
        cases hb : m.getLsbD j with
        | false => rfl
        | true => exact absurd ((all_bit hg j).2 hb) h
      rw [this]; simp
  · rw [putOf_cnt]
    have : (allOf m).filter known = allOf m := by
      rw [List.filter_eq_self]
      exact fun x hx => known_all hx
    rw [this]; simp
theorem unput_all {m : BitVec 16} (hg : goodM m) : (putOf false m (allOf m)).1 = 0 := by
  unfold putOf
  apply BitVec.eq_of_getLsbD_eq
  intro j hj
  rw [putOf_bit false j hj]
  by_cases h : ∃ x ∈ allOf m, kOf x = some j
  · rw [if_pos h]; simp
  · rw [if_neg h]
    cases hb : m.getLsbD j with
    | false => simp
    | true => exact absurd ((all_bit hg j).2 hb) h
theorem all_lt {m : BitVec 16} {i : Nat} {a b : Md} (ha : (allOf m)[i]? = some a) (hb : (allOf m)[i + 1]? = some b) : rankI a < rankI b ∨ rankI a = rankI b ∧ a.n < b.n := by
  have hp : (allOf m).Pairwise fun a b => rankI a < rankI b ∨ rankI a = rankI b ∧ a.n < b.n := by
    unfold allOf
    rw [List.pairwise_map]
    refine List.Pairwise.filter _ ?_
    have : keyT.Pairwise fun a b => rankI ⟨a.1, a.2.1⟩ < rankI ⟨b.1, b.2.1⟩ ∨ rankI ⟨a.1, a.2.1⟩ = rankI ⟨b.1, b.2.1⟩ ∧ a.2.1 < b.2.1 := by
      unfold keyT; decide
    exact this
  obtain ⟨h1, e1⟩ := List.getElem?_eq_some_iff.1 ha
  obtain ⟨h2, e2⟩ := List.getElem?_eq_some_iff.1 hb
  have := List.pairwise_iff_getElem.1 hp i (i + 1) h1 h2 (by omega)
  rw [e1, e2] at this
  exact this
theorem all_len (m : BitVec 16) : (allOf m).length ≤ 13 := by
  unfold allOf
  rw [List.length_map]
  exact List.length_filter_le _ _
theorem is_7 (m : BitVec 16) (x : Md) (h : kOf x = some 7) : isOf m x = m.getLsbD 7 := by
  unfold isOf
  rw [state_bit, h]
  show ((if m.getLsbD 7 = true then (1 : Int) else 2) == 1) = m.getLsbD 7
  cases m.getLsbD 7 <;> rfl
theorem eq_w (m : BitVec 16) : (!((m.toNat : Int) == (m.toNat : Int) && true)) = false := by simp
def envU (l : List Ac) (m : BitVec 16) (n k i : Int) : List V := .psl 2 (actsV l) .any :: .undef :: .bool false :: .ptr 0 0 :: .psl 2 (mdsV (allOf m)) .any :: .ptr 1 0 :: .ptr 2 0 :: .int .i64 n :: .ptr 3 0 :: .int .i64 k :: .int .i64 i :: List.replicate 130 .undef
theorem all_law (l : List Ac) (hl : ∀ a ∈ l, a.ok) (hll : l.length < 9223372036854775808) : Go.Cx.Sem Try.prog 4 [.psl 2 (actsV l) .any] [] fun v _ => v = .bool true := by
  refine Sem.of_body tysOk md0 Try.func4 rfl rfl ?_
  refine works.sem _ ?_
  refine BCase.no rfl ?_
  refine (played_fn l hl hll).sem _ ?_
  have hg := played_good l
  generalize playedOf l = m at hg
  have hL := all_len m
  have hml := mdsV_len (allOf m)
  refine (all_fn m hg).sem _ ?_
  have p1 : Fn Try.prog 17 [wV (0#16).toNat, .bool true, .psl 2 (mdsV (allOf m)) .any] (.tup [wV m.toNat, .int .i64 ((allOf m).length : Nat)]) := by
    have := put_fn true 0#16 (allOf m) (by omega)
    rw [show putOf true 0#16 (allOf m) = (m, (allOf m).length) from put_all hg] at this
    exact this
  have p2 : Fn Try.prog 17 [wV m.toNat, .bool false, .psl 2 (mdsV (allOf m)) .any] (.tup [wV (0#16).toNat, .int .i64 ((putOf false m (allOf m)).2 : Nat)]) := by
    have := put_fn false m (allOf m) (by omega)
    rw [show (putOf false m (allOf m)).1 = 0#16 from unput_all hg] at this
    exact this
  refine p1.sem _ ?_
  refine p2.sem _ ?_
  generalize ((putOf false m (allOf m)).2 : Int) = q
  refine BCase.no (eq_w m) ?_
  repeat (first | refine BCase.yes rfl ?_ | refine BCase.no rfl ?_)
  refine BCase.no (by rw [hml]; simp) ?_
  repeat (first | refine BCase.yes rfl ?_ | refine BCase.no rfl ?_)
  have z : Fn Try.prog 16 [wV (0#16).toNat] (.psl 2 [] .any) := by
    have := all_fn 0#16 (lit_good _ (by decide))
    rw [show allOf 0#16 = [] by decide] at this
    exact this
  refine z.sem _ ?_
  repeat (first | refine BCase.yes rfl ?_ | refine BCase.no rfl ?_)
  refine LoopP.inv (md := md0) (fun k env h => ∃ (i : Nat), k = (allOf m).length - i ∧ i ≤ (allOf m).length ∧ env = envU l m ((allOf m).length : Nat) q i ∧ h = [wB m.toNat, wB 0, wB m.toNat, wB (0#16).toNat]) (allOf m).length ⟨envU l m ((allOf m).length : Nat) q 0, _, .same (by repeat (first | exact trivial | refine ⟨.inl rfl, ?_⟩ | refine ⟨.inr rfl, ?_⟩)) rfl, 0, rfl, Nat.zero_le _, rfl, rfl⟩ ?_
  rintro k _ _ ⟨i, rfl, hi, rfl, rfl⟩
  refine ⟨fun hh => ?_, fun hh => ?_⟩
  · have hi' : i < (allOf m).length := by have := of_decide_eq_true hh; omega
    obtain ⟨c, hc⟩ : ∃ c, (allOf m)[i]? = some c := ⟨_, List.getElem?_eq_getElem hi'⟩
    have hm := List.mem_of_getElem? hc
    have s1 := state_all hm
    refine DrawP.intro tysOk mixed false ?_
    refine ⟨mdC c, ⟨by omega, mdsV_get hc⟩, ?_⟩
    refine ⟨_, (is_fn m c).callT _ _, ?_⟩
    rw [show isOf m c = true by unfold isOf; rw [s1]; rfl]
    repeat (first | refine BCase.yes rfl ?_ | refine BCase.no rfl ?_)
    refine ⟨mdC c, ⟨by omega, mdsV_get hc⟩, ?_⟩
    repeat (first | refine BCase.yes rfl ?_ | refine BCase.no rfl ?_)
    refine ⟨_, (known_fn c).callT _ _, ?_⟩
    rw [known_all hm]
    repeat (first | refine BCase.yes rfl ?_ | refine BCase.no rfl ?_)
    refine ⟨mdC c, ⟨by omega, mdsV_get hc⟩, ?_⟩
    repeat (first | refine BCase.yes rfl ?_ | refine BCase.no rfl ?_)
    refine ⟨_, (state_fn m c).callT _ _, ?_⟩
    rw [s1]
    repeat (first | refine BCase.yes rfl ?_ | refine BCase.no rfl ?_)
    refine ⟨by kernel_rfl, ?_⟩
    repeat (first | refine BCase.yes rfl ?_ | refine BCase.no rfl ?_)
    refine DrawP.intro tysOk mixed false ?_
    refine ⟨fun h0 => ?_, fun h0 => ?_⟩
    · repeat (first | refine BCase.yes rfl ?_ | refine BCase.no rfl ?_)
      have h0' : 0 < i := by have := of_decide_eq_true h0; omega
      obtain ⟨j, rfl⟩ : ∃ j, i = j + 1 := ⟨i - 1, by omega⟩
      obtain ⟨d, hd⟩ : ∃ d, (allOf m)[j]? = some d := ⟨_, List.getElem?_eq_getElem (by omega)⟩
      have hlt := all_lt hd hc
      have hw : IntKind.i64.wrap (((j + 1 : Nat) : Int) - 1) = (j : Int) := by rw [wr64 (by omega) (by omega)]; omega
      refine ⟨mdC d, ⟨by rw [hw]; omega, by rw [hw]; exact mdsV_get hd⟩, ?_⟩
      repeat (first | refine BCase.yes rfl ?_ | refine BCase.no rfl ?_)
      refine ⟨fun hdp => ?_, fun hdp => ?_⟩
      · have hcp : c.p = true := by
          unfold rankI at hlt
          rw [hdp] at hlt
          cases hc2 : c.p with
          | true => rfl
          | false => rw [hc2] at hlt; simp at hlt
        have hn : d.n < c.n := by
          unfold rankI at hlt
          rw [hdp, hcp] at hlt
          simpa using hlt
        repeat (first | refine BCase.yes rfl ?_ | refine BCase.no rfl ?_)
        refine ⟨mdC c, ⟨by omega, mdsV_get hc⟩, ?_⟩
        repeat (first | refine BCase.yes rfl ?_ | refine BCase.no rfl ?_)
        refine BCase.no (by rw [hcp]; rfl) ?_
        repeat (first | refine BCase.yes rfl ?_ | refine BCase.no rfl ?_)
        refine ⟨mdC d, ⟨by rw [hw]; omega, by rw [hw]; exact mdsV_get hd⟩, ?_⟩
        repeat (first | refine BCase.yes rfl ?_ | refine BCase.no rfl ?_)
        refine ⟨mdC c, ⟨by omega, mdsV_get hc⟩, ?_⟩
        repeat (first | refine BCase.yes rfl ?_ | refine BCase.no rfl ?_)
        refine BCase.yes (by rw [hdp, hcp]; rfl) ?_
        repeat (first | refine BCase.yes rfl ?_ | refine BCase.no rfl ?_)
        refine ⟨mdC d, ⟨by rw [hw]; omega, by rw [hw]; exact mdsV_get hd⟩, ?_⟩
        repeat (first | refine BCase.yes rfl ?_ | refine BCase.no rfl ?_)
        refine ⟨mdC c, ⟨by omega, mdsV_get hc⟩, ?_⟩
        repeat (first | refine BCase.yes rfl ?_ | refine BCase.no rfl ?_)
        refine ⟨by kernel_rfl, ?_⟩
        refine BCase.no (decide_eq_false (by omega)) ?_
        refine ⟨(allOf m).length - (j + 1 + 1), envU l m ((allOf m).length : Nat) q (j + 1 + 1 : Nat), _, by omega, .same ?_ rfl, j + 1 + 1, rfl, hi', rfl, rfl⟩
        refine ⟨.inl rfl, .inl rfl, .inl rfl, .inl rfl, .inl rfl, .inl rfl, .inl rfl, .inl rfl, .inl rfl, .inl rfl, .inl ?_, ?_⟩
        · exact congrArg (V.int .i64) (wrs (j + 1) 1 (by omega))
        · repeat (first | exact trivial | refine ⟨.inl rfl, ?_⟩ | refine ⟨.inr rfl, ?_⟩)
      · repeat (first | refine BCase.yes rfl ?_ | refine BCase.no rfl ?_)
        refine ⟨mdC d, ⟨by rw [hw]; omega, by rw [hw]; exact mdsV_get hd⟩, ?_⟩
        repeat (first | refine BCase.yes rfl ?_ | refine BCase.no rfl ?_)
        refine ⟨mdC c, ⟨by omega, mdsV_get hc⟩, ?_⟩
        repeat (first | refine BCase.yes rfl ?_ | refine BCase.no rfl ?_)
        refine ⟨fun hcp => ?_, fun hcp => ?_⟩
        · have hn : d.n < c.n := by
            have hcp' : d.p = c.p := by simpa using hcp
            unfold rankI at hlt
            rw [← hcp', hdp] at hlt
            simpa using hlt
          repeat (first | refine BCase.yes rfl ?_ | refine BCase.no rfl ?_)
          refine ⟨mdC d, ⟨by rw [hw]; omega, by rw [hw]; exact mdsV_get hd⟩, ?_⟩
          repeat (first | refine BCase.yes rfl ?_ | refine BCase.no rfl ?_)
          refine ⟨mdC c, ⟨by omega, mdsV_get hc⟩, ?_⟩
          repeat (first | refine BCase.yes rfl ?_ | refine BCase.no rfl ?_)
          refine ⟨by kernel_rfl, ?_⟩
          refine BCase.no (decide_eq_false (by omega)) ?_
          refine ⟨(allOf m).length - (j + 1 + 1), envU l m ((allOf m).length : Nat) q (j + 1 + 1 : Nat), _, by omega, .same ?_ rfl, j + 1 + 1, rfl, hi', rfl, rfl⟩
          refine ⟨.inl rfl, .inl rfl, .inl rfl, .inl rfl, .inl rfl, .inl rfl, .inl rfl, .inl rfl, .inl rfl, .inl rfl, .inl ?_, ?_⟩
          · exact congrArg (V.int .i64) (wrs (j + 1) 1 (by omega))
          · repeat (first | exact trivial | refine ⟨.inl rfl, ?_⟩ | refine ⟨.inr rfl, ?_⟩)
        · repeat (first | refine BCase.yes rfl ?_ | refine BCase.no rfl ?_)
          refine ⟨by kernel_rfl, ?_⟩
          repeat (first | refine BCase.yes rfl ?_ | refine BCase.no rfl ?_)
          refine ⟨(allOf m).length - (j + 1 + 1), envU l m ((allOf m).length : Nat) q (j + 1 + 1 : Nat), _, by omega, .same ?_ rfl, j + 1 + 1, rfl, hi', rfl, rfl⟩
          refine ⟨.inl rfl, .inl rfl, .inl rfl, .inl rfl, .inl rfl, .inl rfl, .inl rfl, .inl rfl, .inl rfl, .inl rfl, .inl ?_, ?_⟩
          · exact congrArg (V.int .i64) (wrs (j + 1) 1 (by omega))
          · repeat (first | exact trivial | refine ⟨.inl rfl, ?_⟩ | refine ⟨.inr rfl, ?_⟩)
    · repeat (first | refine BCase.yes rfl ?_ | refine BCase.no rfl ?_)
      refine ⟨by kernel_rfl, ?_⟩
      repeat (first | refine BCase.yes rfl ?_ | refine BCase.no rfl ?_)
      refine ⟨(allOf m).length - (i + 1), envU l m ((allOf m).length : Nat) q (i + 1 : Nat), _, by omega, .same ?_ rfl, i + 1, rfl, hi', rfl, rfl⟩
      refine ⟨.inl rfl, .inl rfl, .inl rfl, .inl rfl, .inl rfl, .inl rfl, .inl rfl, .inl rfl, .inl rfl, .inl rfl, .inl ?_, ?_⟩
      · exact congrArg (V.int .i64) (wrs i 1 (by omega))
      · repeat (first | exact trivial | refine ⟨.inl rfl, ?_⟩ | refine ⟨.inr rfl, ?_⟩)
  · have k1 := is_7 m (pr 47) (by decide)
    have k2 := is_7 m (pr 1047) (by decide)
    have k3 := is_7 m (pr 1049) (by decide)
    refine DrawP.intro tysOk mixed false ?_
    refine ⟨_, (priv_fn 47).callT _ _, ?_⟩
    refine ⟨_, (is_fn m (pr 47)).callT _ _, ?_⟩
    refine ⟨_, (priv_fn 1047).callT _ _, ?_⟩
    refine ⟨_, (is_fn m (pr 1047)).callT _ _, ?_⟩
    refine BCase.yes (by rw [k1, k2]; simp) ?_
    repeat (first | refine BCase.yes rfl ?_ | refine BCase.no rfl ?_)
    refine ⟨_, (priv_fn 47).callT _ _, ?_⟩
    repeat (first | refine BCase.yes rfl ?_ | refine BCase.no rfl ?_)
    refine ⟨_, (is_fn m (pr 47)).callT _ _, ?_⟩
    repeat (first | refine BCase.yes rfl ?_ | refine BCase.no rfl ?_)
    refine ⟨_, (priv_fn 1049).callT _ _, ?_⟩
    repeat (first | refine BCase.yes rfl ?_ | refine BCase.no rfl ?_)
    refine ⟨_, (is_fn m (pr 1049)).callT _ _, ?_⟩
    repeat (first | refine BCase.yes rfl ?_ | refine BCase.no rfl ?_)
    refine ⟨by kernel_rfl, ?_⟩
    show V.bool (isOf m (pr 47) == isOf m (pr 1049)) = _
    rw [k1, k3]
    simp
end Go.Cx
