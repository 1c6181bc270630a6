/- What functions of this seat compute, each for every argument of the shapes that are named; no condition beside the stated ones. -/
import Derived.Test.YtadgjigabechnaaLM10g
namespace Go.Cx
open Go.Proofs Go.RowKit
set_option maxRecDepth 100000
set_option maxHeartbeats 8000000
theorem Sem.argR {P : Program} {g : FuncId} {args args' : List V} {h : Heap} {K : V → Heap → Prop} (hl : args'.length = args.length) (hf : ∀ (φ : Phi) (μ : Mu) (j : Nat) (c : Value), Rv φ μ (args.getD j .undef) c → Rv φ μ (args'.getD j .undef) c) (k : Go.Cx.Sem P g args' h K) : Go.Cx.Sem P g args h K :=
  ⟨fun φ μ B w cargs hB r ha => k.run φ μ B w cargs hB r ⟨hl.trans ha.1, fun j => hf φ μ j _ (ha.2 j)⟩⟩
theorem agg1 {φ : Phi} {μ : Mu} {a b : V} {c : Value} (hf : forgT1 a b) (h : Rv φ μ (.agg [a]) c) : Rv φ μ (.agg [b]) c := by
  obtain ⟨cs, rfl, hA⟩ := h.agg_inv
  refine .agg _ _ _ hA.1 fun j hj => ?_
  have := hA.2 j hj
  match j, hj with
  | 0, _ => exact forgT1_ok this hf
theorem Sem.res1 {P : Program} {g : FuncId} {args : List V} {h : Heap} {K : V → Heap → Prop} (k : Go.Cx.Sem P g args h fun v h' => ∃ a b, v = .agg [a] ∧ forgT1 a b ∧ K (.agg [b]) h') : Go.Cx.Sem P g args h K :=
  ⟨fun φ μ B w cargs hB r ha => (k.run φ μ B w cargs hB r ha).mono fun _ _ ⟨_, h', φ', μ', cv, e1, ⟨a, b, e, hf, hK⟩, hv, rest⟩ => ⟨_, h', φ', μ', cv, e1, hK, agg1 hf (e ▸ hv), rest⟩⟩
def mdE (e : Bool × Int × Nat) : Md := ⟨e.1, e.2.1⟩
def everyL : List Md := keyT.map mdE
theorem every_fn : Fn Try.prog 39 [] (.psl 2 (mdsV everyL) .exact) := Fn.of_val fOk (noNE_ok _) tysOk mixed (fun _ _ => false) 600 20 rfl rfl (by kernel_rfl)
theorem mem_every (x : Md) : x ∈ everyL ↔ known x = true := by
  constructor
  · intro h
    obtain ⟨e, he, rfl⟩ := List.mem_map.1 h
    unfold known mdE
    rw [key_k he]; rfl
  · intro h
    rcases kOf_cases x with g | ⟨e, he, gx, _⟩
    · unfold known at h; rw [g] at h; cases h
    · exact List.mem_map.2 ⟨e, he, gx.symm⟩
theorem mem_take {l : List Md} {i : Nat} {c x : Md} (hc : l[i]? = some c) : x ∈ l.take (i + 1) ↔ x ∈ l.take i ∨ x = c := by
  rw [List.take_add_one, hc]; simp
def mB2 (t : Nat) (x : Md) : Option Blk := some (.cells t (mdC x))
def envKn (x : Md) (i : Int) : List V := x.v :: .ptr 0 0 :: .bool false :: .psl 2 (mdsV everyL) .exact :: .int .i64 i :: List.replicate 13 .undef
theorem rknown_fn (x : Md) : Fn Try.prog 25 [x.v] (.bool (known x)) := by
  have hml := mdsV_len everyL
  have hlen : everyL.length = 13 := rfl
  refine Fn.of_body tysOk md0 Try.func25 rfl rfl rfl rfl ?_
  refine every_fn.sem _ ?_
  refine LoopP.inv (md := md0) (fun k env h => ∃ (i : Nat), k = everyL.length - i ∧ i ≤ everyL.length ∧ (x ∉ everyL.take i) ∧ env = envKn x i ∧ h = [mB2 52 x]) everyL.length ⟨envKn x 0, _, .same (by repeat (first | exact trivial | refine ⟨.inl rfl, ?_⟩ | refine ⟨.inr rfl, ?_⟩)) rfl, 0, rfl, Nat.zero_le _, by simp, rfl, rfl⟩ ?_
  rintro k _ _ ⟨i, rfl, hi, hn, rfl, rfl⟩
  refine ⟨fun h => ?_, fun h => ?_⟩
  · have hi' : i < everyL.length := by have := of_decide_eq_true h; omega
    obtain ⟨c, hc⟩ : ∃ c, everyL[i]? = some c := ⟨_, List.getElem?_eq_getElem hi'⟩
    refine DrawP.intro tysOk mixed false ?_
    refine ⟨mdC c, ⟨by omega, mdsV_get hc⟩, ?_⟩
    refine ⟨by kernel_rfl, ?_⟩
    refine ⟨fun he => ?_, fun he => ?_⟩
    · rw [md_eq] at he
      have hcx : c = x := of_decide_eq_true he
      rw [(mem_every x).1 (hcx ▸ List.mem_of_getElem? hc)]
      rfl
    · rw [md_eq] at he
      have hcx : ¬ c = x := of_decide_eq_false he
      refine ⟨everyL.length - (i + 1), envKn x (i + 1 : Nat), [mB2 52 x], by omega, .same ?_ rfl, i + 1, rfl, hi', fun hm => ?_, rfl, rfl⟩
      · refine ⟨.inl rfl, .inl rfl, .inl rfl, .inl rfl, .inl ?_, ?_⟩
        · exact congrArg (V.int .i64) (wrs i 1 (by omega))
        · repeat (first | exact trivial | refine ⟨.inl rfl, ?_⟩ | refine ⟨.inr rfl, ?_⟩)
      · rcases (mem_take hc).1 hm with h1 | h1
        · exact hn h1
        · exact hcx h1.symm
  · have hi' : i = everyL.length := by have := of_decide_eq_false h; omega
    rw [hi', List.take_length] at hn
    have : known x = false := by
      cases hk : known x with
      | false => rfl
      | true => exact absurd ((mem_every x).2 hk) hn
    rw [this]
    rfl
def altR (x : Md) : Bool := x.p && (x.n == 47 || (x.n == 1047 || x.n == 1049))
theorem ralt_fn (x : Md) : Fn Try.prog 27 [x.v] (.bool (altR x)) := by
  obtain ⟨r, hr⟩ : ∃ r, r = altR x := ⟨_, rfl⟩
  rw [← hr]
  unfold altR at hr
  refine Fn.of_body tysOk md0 Try.func27 rfl rfl rfl rfl ?_
  refine ⟨fun h1 => ?_, fun h1 => ?_⟩
  · rw [h1] at hr
    repeat (first | refine BCase.yes rfl ?_ | refine BCase.no rfl ?_)
    refine ⟨fun h2 => ?_, fun h2 => ?_⟩
    · rw [h2] at hr
      subst hr
      repeat (first | refine BCase.yes rfl ?_ | refine BCase.no rfl ?_)
      rfl
    · rw [h2] at hr
      repeat (first | refine BCase.yes rfl ?_ | refine BCase.no rfl ?_)
      refine ⟨fun h3 => ?_, fun h3 => ?_⟩
      · rw [h3] at hr
        subst hr
        repeat (first | refine BCase.yes rfl ?_ | refine BCase.no rfl ?_)
        rfl
      · rw [h3] at hr
        subst hr
        repeat (first | refine BCase.yes rfl ?_ | refine BCase.no rfl ?_)
        show V.bool (x.n == 1049) = _
        simp
  · rw [h1] at hr
    subst hr
    repeat (first | refine BCase.yes rfl ?_ | refine BCase.no rfl ?_)
    rfl
theorem alt_k (x : Md) : altOf x = true ↔ kOf x = some 7 := by
  unfold altOf bOf
  rcases kOf_cases x with h | ⟨e, he, _, h⟩
  · rw [h]; simp
  · rw [h]
    simp only [keyT, List.mem_cons, List.not_mem_nil, or_false] at he
    rcases he with rfl | rfl | rfl | rfl | rfl | rfl | rfl | rfl | rfl | rfl | rfl | rfl | rfl <;> simp <;> decide
theorem alt_same (x : Md) : altR x = altOf x := by
  have h := alt_k x
  rw [Bool.eq_iff_iff, h]
  unfold altR
  constructor
  · intro ha
    simp only [Bool.and_eq_true, Bool.or_eq_true, beq_iff_eq] at ha
    obtain ⟨p, n⟩ := x
    simp only at ha
    obtain ⟨rfl, rfl | rfl | rfl⟩ := ha <;> decide
  · intro hk
    rcases kOf_cases x with g | ⟨e, he, gx, g⟩
    · rw [hk] at g; cases g
    · rw [hk] at g
      simp only [Option.some.injEq] at g
      have key : ∀ e ∈ keyT, 7 = e.2.2 → (e.1 && (e.2.1 == 47 || (e.2.1 == 1047 || e.2.1 == 1049))) = true := by decide
      rw [gx]
      exact key e he g
/-! ### Lists of modes -/
def rV (l : List Md) : V := .agg [.psl 2 (mdsV l) .any]
def rB (l : List Md) : Option Blk := some (.cells 44 [.psl 2 (mdsV l) .any])
def envIs (l : List Md) (x : Md) (i : Int) : List V := rV l :: x.v :: .ptr 0 0 :: .ptr 1 0 :: .bool false :: .int .i64 i :: List.replicate 14 .undef
theorem ris_fn (l : List Md) (hl : l.length < 1000000) (x : Md) : Fn Try.prog 28 [rV l, x.v] (.bool (decide (x ∈ l))) := by
  obtain ⟨r, hr⟩ : ∃ r, r = decide (x ∈ l) := ⟨_, rfl⟩
  rw [← hr]
  have hml := mdsV_len l
  refine Fn.of_body tysOk md0 Try.func28 rfl rfl rfl rfl ?_
  refine LoopP.inv (md := md0) (fun k env h => ∃ (i : Nat), k = l.length - i ∧ i ≤ l.length ∧ (x ∉ l.take i) ∧ env = envIs l x i ∧ h = [rB l, mB2 52 x]) l.length ⟨envIs l x 0, _, .same (by repeat (first | exact trivial | refine ⟨.inl rfl, ?_⟩ | refine ⟨.inr rfl, ?_⟩)) rfl, 0, rfl, Nat.zero_le _, by simp, rfl, rfl⟩ ?_
  rintro k _ _ ⟨i, rfl, hi, hn, rfl, rfl⟩
  refine ⟨fun h => ?_, fun h => ?_⟩
  · have hi' : i < l.length := by have := of_decide_eq_true h; omega
    obtain ⟨c, hc⟩ : ∃ c, l[i]? = some c := ⟨_, List.getElem?_eq_getElem hi'⟩
    refine DrawP.intro tysOk mixed false ?_
    refine ⟨mdC c, ⟨by omega, mdsV_get hc⟩, ?_⟩
    refine ⟨by kernel_rfl, ?_⟩
    refine ⟨fun he => ?_, fun he => ?_⟩
    · rw [md_eq] at he
      have hcx : c = x := of_decide_eq_true he
      have hm : x ∈ l := by rw [← hcx]; exact List.mem_of_getElem? hc
      have hrt : r = true := by rw [hr]; exact decide_eq_true hm
      subst hrt
      rfl
    · rw [md_eq] at he
      have hcx : ¬ c = x := of_decide_eq_false he
      refine ⟨l.length - (i + 1), envIs l x (i + 1 : Nat), [rB l, mB2 52 x], by omega, .same ?_ rfl, i + 1, rfl, hi', fun hm => ?_, rfl, rfl⟩
      · refine ⟨.inl rfl, .inl rfl, .inl rfl, .inl rfl, .inl rfl, .inl ?_, ?_⟩
        · exact congrArg (V.int .i64) (wrs i 1 (by omega))
        · repeat (first | exact trivial | refine ⟨.inl rfl, ?_⟩ | refine ⟨.inr rfl, ?_⟩)
      · rcases (mem_take hc).1 hm with h1 | h1
        · exact hn h1
        · exact hcx h1.symm
  · have hi' : i = l.length := by have := of_decide_eq_false h; omega
    rw [hi', List.take_length] at hn
    have hrf : r = false := by rw [hr]; exact decide_eq_false hn
    subst hrf
    rfl
/-! ### one: a known mode is put -/
def meant (y x : Md) : Bool := decide (y = x) || (altR y && altR x)
def keep (on : Bool) (l : List Md) (x y : Md) : Bool := (meant y x && on) || (!meant y x && decide (y ∈ l))
def oneL (on : Bool) (l : List Md) (x : Md) : List Md := everyL.filter (keep on l x)
def outK (acc : List Md) : V := match acc with | [] => .nils | a :: acc => .psl 2 (mdsV (a :: acc)) (.own 3)
def hpK (l : List Md) (x : Md) (acc : List Md) : Heap := match acc with
  | [] => [rB l, mB2 52 x, some (.cells 44 [.nils])]
  | a :: acc => [rB l, mB2 52 x, some (.cells 44 [.nils]), some (.token 2 (acc.length + 1))]
def envK (l : List Md) (on : Bool) (x : Md) (acc : List Md) (i : Int) : List V := rV l :: .bool on :: x.v :: .ptr 0 0 :: .undef :: .ptr 1 0 :: .ptr 2 0 :: outK acc :: .psl 2 (mdsV everyL) .exact :: .int .i64 i :: List.replicate 50 .undef
end Go.Cx
namespace Go.Cx
open Go.Proofs Go.RowKit
set_option maxRecDepth 100000
set_option maxHeartbeats 8000000
theorem filt_snoc (p : Md → Bool) {i : Nat} {c : Md} (hc : everyL[i]? = some c) : (everyL.take (i + 1)).filter p = (everyL.take i).filter p ++ (if p c then [c] else []) := by
  rw [List.take_add_one, hc]
  simp only [Option.toList, List.filter_append]
  cases h : p c <;> simp [h]
theorem one_fn (l : List Md) (hl : l.length < 1000000) (on : Bool) (x : Md) : Fn Try.prog 38 [rV l, .bool on, x.v] (rV (oneL on l x)) := by
  have hml := mdsV_len everyL
  have hlen : everyL.length = 13 := rfl
  refine ⟨rfl, rfl, Sem.res1 (Sem.of_body tysOk md0 Try.func38 rfl rfl ?_)⟩
  refine every_fn.sem _ ?_
  refine LoopP.inv (md := md0) (fun k env h => ∃ (i : Nat), k = everyL.length - i ∧ i ≤ everyL.length ∧ env = envK l on x ((everyL.take i).filter (keep on l x)) i ∧ h = hpK l x ((everyL.take i).filter (keep on l x))) everyL.length ⟨envK l on x [] 0, _, .same (by repeat (first | exact trivial | refine ⟨.inl rfl, ?_⟩ | refine ⟨.inr rfl, ?_⟩)) rfl, 0, rfl, Nat.zero_le _, rfl, rfl⟩ ?_
  rintro k _ _ ⟨i, rfl, hi, rfl, rfl⟩
  have hfl : ((everyL.take i).filter (keep on l x)).length ≤ 13 := Nat.le_trans (List.length_filter_le _ _) (by rw [List.length_take]; omega)
  cases hacc : (everyL.take i).filter (keep on l x) with
  | nil =>
    cases on with
    | true =>
      refine ⟨fun h => ?_, fun h => ?_⟩
      · have hi' : i < everyL.length := by have := of_decide_eq_true h; omega
        obtain ⟨c, hc⟩ : ∃ c, everyL[i]? = some c := ⟨_, List.getElem?_eq_getElem hi'⟩
        refine DrawP.intro tysOk mixed false ?_
        refine ⟨mdC c, ⟨by omega, mdsV_get hc⟩, ?_⟩
        refine ⟨fun he => ?_, fun he => ?_⟩
        · repeat (first | refine BCase.yes rfl ?_ | refine BCase.no rfl ?_)
          rw [md_eq] at he
          have m1 : meant c x = true := by unfold meant; rw [he]; rfl
          refine ⟨by kernel_rfl, ?_⟩
          refine DrawP.intro tysOk mixed false ?_
          repeat (first | refine BCase.yes rfl ?_ | refine BCase.no rfl ?_)
          refine ⟨by kernel_rfl, ?_⟩
          repeat (first | refine BCase.yes rfl ?_ | refine BCase.no rfl ?_)
          have hk : keep true l x c = true := by unfold keep; rw [m1]; rfl
          have hs := filt_snoc (keep true l x) hc
          rw [hacc, hk, List.nil_append] at hs
          refine ⟨mdC c, ⟨by omega, mdsV_get hc⟩, ?_⟩
          repeat (first | refine BCase.yes rfl ?_ | refine BCase.no rfl ?_)
          refine ⟨everyL.length - (i + 1), envK l true x [c] (i + 1 : Nat), hpK l x [c], by omega, .same ?_ rfl, i + 1, rfl, hi', by rw [hs]; rfl, by rw [hs]; rfl⟩
          refine ⟨.inl rfl, .inl rfl, .inl rfl, .inl rfl, .inl rfl, .inl rfl, .inl rfl, .inl rfl, .inl rfl, .inl ?_, ?_⟩
          · exact congrArg (V.int .i64) (wrs i 1 (by omega))
          · repeat (first | exact trivial | refine ⟨.inl rfl, ?_⟩ | refine ⟨.inr rfl, ?_⟩)
        · repeat (first | refine BCase.yes rfl ?_ | refine BCase.no rfl ?_)
          rw [md_eq] at he
          refine ⟨mdC c, ⟨by omega, mdsV_get hc⟩, ?_⟩
          repeat (first | refine BCase.yes rfl ?_ | refine BCase.no rfl ?_)
          refine ⟨_, (ralt_fn c).callT _ _, ?_⟩
          repeat (first | refine BCase.yes rfl ?_ | refine BCase.no rfl ?_)
          refine ⟨fun ha => ?_, fun ha => ?_⟩
          · repeat (first | refine BCase.yes rfl ?_ | refine BCase.no rfl ?_)
            refine ⟨_, (ralt_fn x).callT _ _, ?_⟩
            repeat (first | refine BCase.yes rfl ?_ | refine BCase.no rfl ?_)
            cases hb : altR x with
            | true =>
              have m1 : meant c x = true := by unfold meant; rw [he, ha, hb]; rfl
              refine ⟨by kernel_rfl, ?_⟩
              refine DrawP.intro tysOk mixed false ?_
              repeat (first | refine BCase.yes rfl ?_ | refine BCase.no rfl ?_)
              refine ⟨by kernel_rfl, ?_⟩
              repeat (first | refine BCase.yes rfl ?_ | refine BCase.no rfl ?_)
              have hk : keep true l x c = true := by unfold keep; rw [m1]; rfl
              have hs := filt_snoc (keep true l x) hc
              rw [hacc, hk, List.nil_append] at hs
              refine ⟨mdC c, ⟨by omega, mdsV_get hc⟩, ?_⟩
              repeat (first | refine BCase.yes rfl ?_ | refine BCase.no rfl ?_)
              refine ⟨everyL.length - (i + 1), envK l true x [c] (i + 1 : Nat), hpK l x [c], by omega, .same ?_ rfl, i + 1, rfl, hi', by rw [hs]; rfl, by rw [hs]; rfl⟩
              refine ⟨.inl rfl, .inl rfl, .inl rfl, .inl rfl, .inl rfl, .inl rfl, .inl rfl, .inl rfl, .inl rfl, .inl ?_, ?_⟩
              · exact congrArg (V.int .i64) (wrs i 1 (by omega))
              · repeat (first | exact trivial | refine ⟨.inl rfl, ?_⟩ | refine ⟨.inr rfl, ?_⟩)
            | false =>
              have m1 : meant c x = false := by unfold meant; rw [he, ha, hb]; rfl
              refine ⟨by kernel_rfl, ?_⟩
              refine DrawP.intro tysOk mixed false ?_
              repeat (first | refine BCase.yes rfl ?_ | refine BCase.no rfl ?_)
              refine ⟨mdC c, ⟨by omega, mdsV_get hc⟩, ?_⟩
              repeat (first | refine BCase.yes rfl ?_ | refine BCase.no rfl ?_)
              refine ⟨_, (ris_fn l hl c).callT _ _, ?_⟩
              repeat (first | refine BCase.yes rfl ?_ | refine BCase.no rfl ?_)
              refine ⟨by kernel_rfl, ?_⟩
              refine ⟨fun hin => ?_, fun hin => ?_⟩
              · repeat (first | refine BCase.yes rfl ?_ | refine BCase.no rfl ?_)
                have hk : keep true l x c = true := by unfold keep; rw [m1, hin]; rfl
                have hs := filt_snoc (keep true l x) hc
                rw [hacc, hk, List.nil_append] at hs
                refine ⟨mdC c, ⟨by omega, mdsV_get hc⟩, ?_⟩
                repeat (first | refine BCase.yes rfl ?_ | refine BCase.no rfl ?_)
                refine ⟨everyL.length - (i + 1), envK l true x [c] (i + 1 : Nat), hpK l x [c], by omega, .same ?_ rfl, i + 1, rfl, hi', by rw [hs]; rfl, by rw [hs]; rfl⟩
                refine ⟨.inl rfl, .inl rfl, .inl rfl, .inl rfl, .inl rfl, .inl rfl, .inl rfl, .inl rfl, .inl rfl, .inl ?_, ?_⟩
                · exact congrArg (V.int .i64) (wrs i 1 (by omega))
                · repeat (first | exact trivial | refine ⟨.inl rfl, ?_⟩ | refine ⟨.inr rfl, ?_⟩)
              · repeat (first | refine BCase.yes rfl ?_ | refine BCase.no rfl ?_)
                have hk : keep true l x c = false := by unfold keep; rw [m1, hin]; rfl
                have hs := filt_snoc (keep true l x) hc
                rw [hacc, hk] at hs
                simp only [Bool.false_eq_true, if_false, List.append_nil] at hs
                repeat (first | refine BCase.yes rfl ?_ | refine BCase.no rfl ?_)
                refine ⟨everyL.length - (i + 1), envK l true x [] (i + 1 : Nat), hpK l x [], by omega, .same ?_ rfl, i + 1, rfl, hi', by rw [hs], by rw [hs]⟩
                refine ⟨.inl rfl, .inl rfl, .inl rfl, .inl rfl, .inl rfl, .inl rfl, .inl rfl, .inl rfl, .inl rfl, .inl ?_, ?_⟩
                · exact congrArg (V.int .i64) (wrs i 1 (by omega))
                · repeat (first | exact trivial | refine ⟨.inl rfl, ?_⟩ | refine ⟨.inr rfl, ?_⟩)
          · repeat (first | refine BCase.yes rfl ?_ | refine BCase.no rfl ?_)
            have m1 : meant c x = false := by unfold meant; rw [he, ha]; rfl
            refine ⟨by kernel_rfl, ?_⟩
            refine DrawP.intro tysOk mixed false ?_
            repeat (first | refine BCase.yes rfl ?_ | refine BCase.no rfl ?_)
            refine ⟨mdC c, ⟨by omega, mdsV_get hc⟩, ?_⟩
            repeat (first | refine BCase.yes rfl ?_ | refine BCase.no rfl ?_)
            refine ⟨_, (ris_fn l hl c).callT _ _, ?_⟩
            repeat (first | refine BCase.yes rfl ?_ | refine BCase.no rfl ?_)
            refine ⟨by kernel_rfl, ?_⟩
            refine ⟨fun hin => ?_, fun hin => ?_⟩
            · repeat (first | refine BCase.yes rfl ?_ | refine BCase.no rfl ?_)
              have hk : keep true l x c = true := by unfold keep; rw [m1, hin]; rfl
              have hs := filt_snoc (keep true l x) hc
              rw [hacc, hk, List.nil_append] at hs
              refine ⟨mdC c, ⟨by omega, mdsV_get hc⟩, ?_⟩
              repeat (first | refine BCase.yes rfl ?_ | refine BCase.no rfl ?_)
              refine ⟨everyL.length - (i + 1), envK l true x [c] (i + 1 : Nat), hpK l x [c], by omega, .same ?_ rfl, i + 1, rfl, hi', by rw [hs]; rfl, by rw [hs]; rfl⟩
              refine ⟨.inl rfl, .inl rfl, .inl rfl, .inl rfl, .inl rfl, .inl rfl, .inl rfl, .inl rfl, .inl rfl, .inl ?_, ?_⟩
              · exact congrArg (V.int .i64) (wrs i 1 (by omega))
              · repeat (first | exact trivial | refine ⟨.inl rfl, ?_⟩ | refine ⟨.inr rfl, ?_⟩)
            · repeat (first | refine BCase.yes rfl ?_ | refine BCase.no rfl ?_)
              have hk : keep true l x c = false := by unfold keep; rw [m1, hin]; rfl
              have hs := filt_snoc (keep true l x) hc
              rw [hacc, hk] at hs
              simp only [Bool.false_eq_true, if_false, List.append_nil] at hs
              repeat (first | refine BCase.yes rfl ?_ | refine BCase.no rfl ?_)
              refine ⟨everyL.length - (i + 1), envK l true x [] (i + 1 : Nat), hpK l x [], by omega, .same ?_ rfl, i + 1, rfl, hi', by rw [hs], by rw [hs]⟩
              refine ⟨.inl rfl, .inl rfl, .inl rfl, .inl rfl, .inl rfl, .inl rfl, .inl rfl, .inl rfl, .inl rfl, .inl ?_, ?_⟩
              · exact congrArg (V.int .i64) (wrs i 1 (by omega))
              · repeat (first | exact trivial | refine ⟨.inl rfl, ?_⟩ | refine ⟨.inr rfl, ?_⟩)
      · have hi' : i = everyL.length := by have := of_decide_eq_false h; omega
        have hfin : oneL true l x = [] := by
          unfold oneL
          rw [← hacc, hi', List.take_length]
        rw [hfin]
        exact ⟨_, _, rfl, .inr (.inr (.inr ⟨rfl, 2, rfl⟩)), rfl⟩
    | false =>
      refine ⟨fun h => ?_, fun h => ?_⟩
      · have hi' : i < everyL.length := by have := of_decide_eq_true h; omega
        obtain ⟨c, hc⟩ : ∃ c, everyL[i]? = some c := ⟨_, List.getElem?_eq_getElem hi'⟩
        refine DrawP.intro tysOk mixed false ?_
        refine ⟨mdC c, ⟨by omega, mdsV_get hc⟩, ?_⟩
        refine ⟨fun he => ?_, fun he => ?_⟩
        · repeat (first | refine BCase.yes rfl ?_ | refine BCase.no rfl ?_)
          rw [md_eq] at he
          have m1 : meant c x = true := by unfold meant; rw [he]; rfl
          refine ⟨by kernel_rfl, ?_⟩
          refine DrawP.intro tysOk mixed false ?_
          repeat (first | refine BCase.yes rfl ?_ | refine BCase.no rfl ?_)
          refine ⟨by kernel_rfl, ?_⟩
          repeat (first | refine BCase.yes rfl ?_ | refine BCase.no rfl ?_)
          have hk : keep false l x c = false := by unfold keep; rw [m1]; rfl
          have hs := filt_snoc (keep false l x) hc
          rw [hacc, hk] at hs
          simp only [Bool.false_eq_true, if_false, List.append_nil] at hs
          repeat (first | refine BCase.yes rfl ?_ | refine BCase.no rfl ?_)
          refine ⟨everyL.length - (i + 1), envK l false x [] (i + 1 : Nat), hpK l x [], by omega, .same ?_ rfl, i + 1, rfl, hi', by rw [hs], by rw [hs]⟩
          refine ⟨.inl rfl, .inl rfl, .inl rfl, .inl rfl, .inl rfl, .inl rfl, .inl rfl, .inl rfl, .inl rfl, .inl ?_, ?_⟩
          · exact congrArg (V.int .i64) (wrs i 1 (by omega))
          · repeat (first | exact trivial | refine ⟨.inl rfl, ?_⟩ | refine ⟨.inr rfl, ?_⟩)
        · repeat (first | refine BCase.yes rfl ?_ | refine BCase.no rfl ?_)
          rw [md_eq] at he
          refine ⟨mdC c, ⟨by omega, mdsV_get hc⟩, ?_⟩
          repeat (first | refine BCase.yes rfl ?_ | refine BCase.no rfl ?_)
          refine ⟨_, (ralt_fn c).callT _ _, ?_⟩
          repeat (first | refine BCase.yes rfl ?_ | refine BCase.no rfl ?_)
          refine ⟨fun ha => ?_, fun ha => ?_⟩
          · repeat (first | refine BCase.yes rfl ?_ | refine BCase.no rfl ?_)
            refine ⟨_, (ralt_fn x).callT _ _, ?_⟩
            repeat (first | refine BCase.yes rfl ?_ | refine BCase.no rfl ?_)
            cases hb : altR x with
            | true =>
              have m1 : meant c x = true := by unfold meant; rw [he, ha, hb]; rfl
              refine ⟨by kernel_rfl, ?_⟩
              refine DrawP.intro tysOk mixed false ?_
              repeat (first | refine BCase.yes rfl ?_ | refine BCase.no rfl ?_)
              refine ⟨by kernel_rfl, ?_⟩
              repeat (first | refine BCase.yes rfl ?_ | refine BCase.no rfl ?_)
              have hk : keep false l x c = false := by unfold keep; rw [m1]; rfl
              have hs := filt_snoc (keep false l x) hc
              rw [hacc, hk] at hs
              simp only [Bool.false_eq_true, if_false, List.append_nil] at hs
              repeat (first | refine BCase.yes rfl ?_ | refine BCase.no rfl ?_)
              refine ⟨everyL.length - (i + 1), envK l false x [] (i + 1 : Nat), hpK l x [], by omega, .same ?_ rfl, i + 1, rfl, hi', by rw [hs], by rw [hs]⟩
              refine ⟨.inl rfl, .inl rfl, .inl rfl, .inl rfl, .inl rfl, .inl rfl, .inl rfl, .inl rfl, .inl rfl, .inl ?_, ?_⟩
              · exact congrArg (V.int .i64) (wrs i 1 (by omega))
              · repeat (first | exact trivial | refine ⟨.inl rfl, ?_⟩ | refine ⟨.inr rfl, ?_⟩)
            | false =>
              have m1 : meant c x = false := by unfold meant; rw [he, ha, hb]; rfl
              refine ⟨by kernel_rfl, ?_⟩
              refine DrawP.intro tysOk mixed false ?_
              repeat (first | refine BCase.yes rfl ?_ | refine BCase.no rfl ?_)
              refine ⟨mdC c, ⟨by omega, mdsV_get hc⟩, ?_⟩
              repeat (first | refine BCase.yes rfl ?_ | refine BCase.no rfl ?_)
              refine ⟨_, (ris_fn l hl c).callT _ _, ?_⟩
              repeat (first | refine BCase.yes rfl ?_ | refine BCase.no rfl ?_)
              refine ⟨by kernel_rfl, ?_⟩
              refine ⟨fun hin => ?_, fun hin => ?_⟩
              · repeat (first | refine BCase.yes rfl ?_ | refine BCase.no rfl ?_)
                have hk : keep false l x c = true := by unfold keep; rw [m1, hin]; rfl
                have hs := filt_snoc (keep false l x) hc
                rw [hacc, hk, List.nil_append] at hs
                refine ⟨mdC c, ⟨by omega, mdsV_get hc⟩, ?_⟩
                repeat (first | refine BCase.yes rfl ?_ | refine BCase.no rfl ?_)
                refine ⟨everyL.length - (i + 1), envK l false x [c] (i + 1 : Nat), hpK l x [c], by omega, .same ?_ rfl, i + 1, rfl, hi', by rw [hs]; rfl, by rw [hs]; rfl⟩
                refine ⟨.inl rfl, .inl rfl, .inl rfl, .inl rfl, .inl rfl, .inl rfl, .inl rfl, .inl rfl, .inl rfl, .inl ?_, ?_⟩
                · exact congrArg (V.int .i64) (wrs i 1 (by omega))
                · repeat (first | exact trivial | refine ⟨.inl rfl, ?_⟩ | refine ⟨.inr rfl, ?_⟩)
              · repeat (first | refine BCase.yes rfl ?_ | refine BCase.no rfl ?_)
                have hk : keep false l x c = false := by unfold keep; rw [m1, hin]; rfl
                have hs := filt_snoc (keep false l x) hc
                rw [hacc, hk] at hs
                simp only [Bool.false_eq_true, if_false, List.append_nil] at hs
                repeat (first | refine BCase.yes rfl ?_ | refine BCase.no rfl ?_)
                refine ⟨everyL.length - (i + 1), envK l false x [] (i + 1 : Nat), hpK l x [], by omega, .same ?_ rfl, i + 1, rfl, hi', by rw [hs], by rw [hs]⟩
                refine ⟨.inl rfl, .inl rfl, .inl rfl, .inl rfl, .inl rfl, .inl rfl, .inl rfl, .inl rfl, .inl rfl, .inl ?_, ?_⟩
                · exact congrArg (V.int .i64) (wrs i 1 (by omega))
                · repeat (first | exact trivial | refine ⟨.inl rfl, ?_⟩ | refine ⟨.inr rfl, ?_⟩)
          · repeat (first | refine BCase.yes rfl ?_ | refine BCase.no rfl ?_)
            have m1 : meant c x = false := by unfold meant; rw [he, ha]; rfl
            refine ⟨by kernel_rfl, ?_⟩
            refine DrawP.intro tysOk mixed false ?_
            repeat (first | refine BCase.yes rfl ?_ | refine BCase.no rfl ?_)
            refine ⟨mdC c, ⟨by omega, mdsV_get hc⟩, ?_⟩
            repeat (first | refine BCase.yes rfl ?_ | refine BCase.no rfl ?_)
            refine ⟨_, (ris_fn l hl c).callT _ _, ?_⟩
            repeat (first | refine BCase.yes rfl ?_ | refine BCase.no rfl ?_)
            refine ⟨by kernel_rfl, ?_⟩
            refine ⟨fun hin => ?_, fun hin => ?_⟩
            · repeat (first | refine BCase.yes rfl ?_ | refine BCase.no rfl ?_)
              have hk : keep false l x c = true := by unfold keep; rw [m1, hin]; rfl
              have hs := filt_snoc (keep false l x) hc
              rw [hacc, hk, List.nil_append] at hs
              refine ⟨mdC c, ⟨by omega, mdsV_get hc⟩, ?_⟩
              repeat (first | refine BCase.yes rfl ?_ | refine BCase.no rfl ?_)
              refine ⟨everyL.length - (i + 1), envK l false x [c] (i + 1 : Nat), hpK l x [c], by omega, .same ?_ rfl, i + 1, rfl, hi', by rw [hs]; rfl, by rw [hs]; rfl⟩
              refine ⟨.inl rfl, .inl rfl, .inl rfl, .inl rfl, .inl rfl, .inl rfl, .inl rfl, .inl rfl, .inl rfl, .inl ?_, ?_⟩
              · exact congrArg (V.int .i64) (wrs i 1 (by omega))
              · repeat (first | exact trivial | refine ⟨.inl rfl, ?_⟩ | refine ⟨.inr rfl, ?_⟩)
            · repeat (first | refine BCase.yes rfl ?_ | refine BCase.no rfl ?_)
              have hk : keep false l x c = false := by unfold keep; rw [m1, hin]; rfl
              have hs := filt_snoc (keep false l x) hc
              rw [hacc, hk] at hs
              simp only [Bool.false_eq_true, if_false, List.append_nil] at hs
              repeat (first | refine BCase.yes rfl ?_ | refine BCase.no rfl ?_)
              refine ⟨everyL.length - (i + 1), envK l false x [] (i + 1 : Nat), hpK l x [], by omega, .same ?_ rfl, i + 1, rfl, hi', by rw [hs], by rw [hs]⟩
              refine ⟨.inl rfl, .inl rfl, .inl rfl, .inl rfl, .inl rfl, .inl rfl, .inl rfl, .inl rfl, .inl rfl, .inl ?_, ?_⟩
              · exact congrArg (V.int .i64) (wrs i 1 (by omega))
              · repeat (first | exact trivial | refine ⟨.inl rfl, ?_⟩ | refine ⟨.inr rfl, ?_⟩)
      · have hi' : i = everyL.length := by have := of_decide_eq_false h; omega
        have hfin : oneL false l x = [] := by
          unfold oneL
          rw [← hacc, hi', List.take_length]
        rw [hfin]
        exact ⟨_, _, rfl, .inr (.inr (.inr ⟨rfl, 2, rfl⟩)), rfl⟩
  | cons a acc =>
    rw [hacc] at hfl
    have hla : (mdsV (a :: acc)).length = acc.length + 1 := by rw [mdsV_len]; rfl
    have hfl2 : acc.length + 1 ≤ 13 := hfl
    cases on with
    | true =>
      refine ⟨fun h => ?_, fun h => ?_⟩
      · have hi' : i < everyL.length := by have := of_decide_eq_true h; omega
        obtain ⟨c, hc⟩ : ∃ c, everyL[i]? = some c := ⟨_, List.getElem?_eq_getElem hi'⟩
        refine DrawP.intro tysOk mixed false ?_
        refine ⟨mdC c, ⟨by omega, mdsV_get hc⟩, ?_⟩
        refine ⟨fun he => ?_, fun he => ?_⟩
        · repeat (first | refine BCase.yes rfl ?_ | refine BCase.no rfl ?_)
          rw [md_eq] at he
          have m1 : meant c x = true := by unfold meant; rw [he]; rfl
          refine ⟨by kernel_rfl, ?_⟩
          refine DrawP.intro tysOk mixed false ?_
          repeat (first | refine BCase.yes rfl ?_ | refine BCase.no rfl ?_)
          refine ⟨by kernel_rfl, ?_⟩
          repeat (first | refine BCase.yes rfl ?_ | refine BCase.no rfl ?_)
          have hk : keep true l x c = true := by unfold keep; rw [m1]; rfl
          have hs := filt_snoc (keep true l x) hc
          rw [hacc, hk] at hs
          refine ⟨mdC c, ⟨by omega, mdsV_get hc⟩, ?_⟩
          refine gdP rfl ?_
          refine gdP ?_ ?_
          · show (Nat.beq 2 2 && Nat.beq 2 2 && Nat.beq (acc.length + 1) (mdsV (a :: acc)).length && (Nat.blt 0 2 && Nat.blt 0 16 && Nat.ble (((mdsV (a :: acc)).length + 1) * (2 * 16)) 281474976710656)) = true
            rw [hla]
            simp only [Bool.and_eq_true]
            exact ⟨⟨⟨rfl, rfl⟩, Nat.beq_refl _⟩, ⟨rfl, rfl⟩, Nat.ble_eq_true_of_le (by omega)⟩
          repeat (first | refine BCase.yes rfl ?_ | refine BCase.no rfl ?_)
          refine ⟨everyL.length - (i + 1), envK l true x (a :: (acc ++ [c])) (i + 1 : Nat), hpK l x (a :: (acc ++ [c])), by omega, .same ?_ ?_, i + 1, rfl, hi', by rw [hs]; rfl, by rw [hs]; rfl⟩
          · refine ⟨.inl rfl, .inl rfl, .inl rfl, .inl rfl, .inl rfl, .inl rfl, .inl rfl, .inl ?_, .inl rfl, .inl ?_, ?_⟩
            · show V.psl 2 (mdsV ((a :: acc) ++ [c])) (.own 3) = _
              exact congrArg (fun z => V.psl 2 z (.own 3)) (by simp [mdsV]; rfl)
            · exact congrArg (V.int .i64) (wrs i 1 (by omega))
            · repeat (first | exact trivial | refine ⟨.inl rfl, ?_⟩ | refine ⟨.inr rfl, ?_⟩)
          · show [rB l, mB2 52 x, some (.cells 44 [.nils]), some (.token 2 ((acc ++ [c]).length + 1))] = _
            rw [List.length_append, List.length_singleton]
            exact congrArg (fun n => [rB l, mB2 52 x, some (.cells 44 [.nils]), some (.token 2 n)]) (show acc.length + 1 + 1 = (mdsV (a :: acc)).length + 1 by rw [hla])
        · repeat (first | refine BCase.yes rfl ?_ | refine BCase.no rfl ?_)
          rw [md_eq] at he
          refine ⟨mdC c, ⟨by omega, mdsV_get hc⟩, ?_⟩
          repeat (first | refine BCase.yes rfl ?_ | refine BCase.no rfl ?_)
          refine ⟨_, (ralt_fn c).callT _ _, ?_⟩
          repeat (first | refine BCase.yes rfl ?_ | refine BCase.no rfl ?_)
          refine ⟨fun ha => ?_, fun ha => ?_⟩
          · repeat (first | refine BCase.yes rfl ?_ | refine BCase.no rfl ?_)
            refine ⟨_, (ralt_fn x).callT _ _, ?_⟩
            repeat (first | refine BCase.yes rfl ?_ | refine BCase.no rfl ?_)
            cases hb : altR x with
            | true =>
              have m1 : meant c x = true := by unfold meant; rw [he, ha, hb]; rfl
              refine ⟨by kernel_rfl, ?_⟩
              refine DrawP.intro tysOk mixed false ?_
              repeat (first | refine BCase.yes rfl ?_ | refine BCase.no rfl ?_)
              refine ⟨by kernel_rfl, ?_⟩
              repeat (first | refine BCase.yes rfl ?_ | refine BCase.no rfl ?_)
              have hk : keep true l x c = true := by unfold keep; rw [m1]; rfl
              have hs := filt_snoc (keep true l x) hc
              rw [hacc, hk] at hs
              refine ⟨mdC c, ⟨by omega, mdsV_get hc⟩, ?_⟩
              refine gdP rfl ?_
              refine gdP ?_ ?_
              · show (Nat.beq 2 2 && Nat.beq 2 2 && Nat.beq (acc.length + 1) (mdsV (a :: acc)).length && (Nat.blt 0 2 && Nat.blt 0 16 && Nat.ble (((mdsV (a :: acc)).length + 1) * (2 * 16)) 281474976710656)) = true
                rw [hla]
                simp only [Bool.and_eq_true]
                exact ⟨⟨⟨rfl, rfl⟩, Nat.beq_refl _⟩, ⟨rfl, rfl⟩, Nat.ble_eq_true_of_le (by omega)⟩
              repeat (first | refine BCase.yes rfl ?_ | refine BCase.no rfl ?_)
              refine ⟨everyL.length - (i + 1), envK l true x (a :: (acc ++ [c])) (i + 1 : Nat), hpK l x (a :: (acc ++ [c])), by omega, .same ?_ ?_, i + 1, rfl, hi', by rw [hs]; rfl, by rw [hs]; rfl⟩
              · refine ⟨.inl rfl, .inl rfl, .inl rfl, .inl rfl, .inl rfl, .inl rfl, .inl rfl, .inl ?_, .inl rfl, .inl ?_, ?_⟩
                · show V.psl 2 (mdsV ((a :: acc) ++ [c])) (.own 3) = _
                  exact congrArg (fun z => V.psl 2 z (.own 3)) (by simp [mdsV]; rfl)
                · exact congrArg (V.int .i64) (wrs i 1 (by omega))
                · repeat (first | exact trivial | refine ⟨.inl rfl, ?_⟩ | refine ⟨.inr rfl, ?_⟩)
              · show [rB l, mB2 52 x, some (.cells 44 [.nils]), some (.token 2 ((acc ++ [c]).length + 1))] = _
                rw [List.length_append, List.length_singleton]
                exact congrArg (fun n => [rB l, mB2 52 x, some (.cells 44 [.nils]), some (.token 2 n)]) (show acc.length + 1 + 1 = (mdsV (a :: acc)).length + 1 by rw [hla])
            | false =>
              have m1 : meant c x = false := by unfold meant; rw [he, ha, hb]; rfl
              refine ⟨by kernel_rfl, ?_⟩
              refine DrawP.intro tysOk mixed false ?_
              repeat (first | refine BCase.yes rfl ?_ | refine BCase.no rfl ?_)
              refine ⟨mdC c, ⟨by omega, mdsV_get hc⟩, ?_⟩
              repeat (first | refine BCase.yes rfl ?_ | refine BCase.no rfl ?_)
              refine ⟨_, (ris_fn l hl c).callT _ _, ?_⟩
              repeat (first | refine BCase.yes rfl ?_ | refine BCase.no rfl ?_)
              refine ⟨by kernel_rfl, ?_⟩
              refine ⟨fun hin => ?_, fun hin => ?_⟩
              · repeat (first | refine BCase.yes rfl ?_ | refine BCase.no rfl ?_)
                have hk : keep true l x c = true := by unfold keep; rw [m1, hin]; rfl
                have hs := filt_snoc (keep true l x) hc
                rw [hacc, hk] at hs
                refine ⟨mdC c, ⟨by omega, mdsV_get hc⟩, ?_⟩
                refine gdP rfl ?_
                refine gdP ?_ ?_
                · show (Nat.beq 2 2 && Nat.beq 2 2 && Nat.beq (acc.length + 1) (mdsV (a :: acc)).length && (Nat.blt 0 2 && Nat.blt 0 16 && Nat.ble (((mdsV (a :: acc)).length + 1) * (2 * 16)) 281474976710656)) = true
                  rw [hla]
                  simp only [Bool.and_eq_true]
                  exact ⟨⟨⟨rfl, rfl⟩, Nat.beq_refl _⟩, ⟨rfl, rfl⟩, Nat.ble_eq_true_of_le (by omega)⟩
                repeat (first | refine BCase.yes rfl ?_ | refine BCase.no rfl ?_)
                refine ⟨everyL.length - (i + 1), envK l true x (a :: (acc ++ [c])) (i + 1 : Nat), hpK l x (a :: (acc ++ [c])), by omega, .same ?_ ?_, i + 1, rfl, hi', by rw [hs]; rfl, by rw [hs]; rfl⟩
                · refine ⟨.inl rfl, .inl rfl, .inl rfl, .inl rfl, .inl rfl, .inl rfl, .inl rfl, .inl ?_, .inl rfl, .inl ?_, ?_⟩
                  · show V.psl 2 (mdsV ((a :: acc) ++ [c])) (.own 3) = _
                    exact congrArg (fun z => V.psl 2 z (.own 3)) (by simp [mdsV]; rfl)
                  · exact congrArg (V.int .i64) (wrs i 1 (by omega))
                  · repeat (first | exact trivial | refine ⟨.inl rfl, ?_⟩ | refine ⟨.inr rfl, ?_⟩)
                · show [rB l, mB2 52 x, some (.cells 44 [.nils]), some (.token 2 ((acc ++ [c]).length + 1))] = _
                  rw [List.length_append, List.length_singleton]
                  exact congrArg (fun n => [rB l, mB2 52 x, some (.cells 44 [.nils]), some (.token 2 n)]) (show acc.length + 1 + 1 = (mdsV (a :: acc)).length + 1 by rw [hla])
              · repeat (first | refine BCase.yes rfl ?_ | refine BCase.no rfl ?_)
                have hk : keep true l x c = false := by unfold keep; rw [m1, hin]; rfl
                have hs := filt_snoc (keep true l x) hc
                rw [hacc, hk] at hs
                simp only [Bool.false_eq_true, if_false, List.append_nil] at hs
                repeat (first | refine BCase.yes rfl ?_ | refine BCase.no rfl ?_)
                refine ⟨everyL.length - (i + 1), envK l true x (a :: acc) (i + 1 : Nat), hpK l x (a :: acc), by omega, .same ?_ rfl, i + 1, rfl, hi', by rw [hs], by rw [hs]⟩
                refine ⟨.inl rfl, .inl rfl, .inl rfl, .inl rfl, .inl rfl, .inl rfl, .inl rfl, .inl rfl, .inl rfl, .inl ?_, ?_⟩
                · exact congrArg (V.int .i64) (wrs i 1 (by omega))
                · repeat (first | exact trivial | refine ⟨.inl rfl, ?_⟩ | refine ⟨.inr rfl, ?_⟩)
          · repeat (first | refine BCase.yes rfl ?_ | refine BCase.no rfl ?_)
            have m1 : meant c x = false := by unfold meant; rw [he, ha]; rfl
            refine ⟨by kernel_rfl, ?_⟩
            refine DrawP.intro tysOk mixed false ?_
            repeat (first | refine BCase.yes rfl ?_ | refine BCase.no rfl ?_)
            refine ⟨mdC c, ⟨by omega, mdsV_get hc⟩, ?_⟩
            repeat (first | refine BCase.yes rfl ?_ | refine BCase.no rfl ?_)
            refine ⟨_, (ris_fn l hl c).callT _ _, ?_⟩
            repeat (first | refine BCase.yes rfl ?_ | refine BCase.no rfl ?_)
            refine ⟨by kernel_rfl, ?_⟩
            refine ⟨fun hin => ?_, fun hin => ?_⟩
            · repeat (first | refine BCase.yes rfl ?_ | refine BCase.no rfl ?_)
              have hk : keep true l x c = true := by unfold keep; rw [m1, hin]; rfl
              have hs := filt_snoc (keep true l x) hc
              rw [hacc, hk] at hs
              refine ⟨mdC c, ⟨by omega, mdsV_get hc⟩, ?_⟩
              refine gdP rfl ?_
              refine gdP ?_ ?_
              · show (Nat.beq 2 2 && Nat.beq 2 2 && Nat.beq (acc.length + 1) (mdsV (a :: acc)).length && (Nat.blt 0 2 && Nat.blt 0 16 && Nat.ble (((mdsV (a :: acc)).length + 1) * (2 * 16)) 281474976710656)) = true
                rw [hla]
                simp only [Bool.and_eq_true]
                exact ⟨⟨⟨rfl, rfl⟩, Nat.beq_refl _⟩, ⟨rfl, rfl⟩, Nat.ble_eq_true_of_le (by omega)⟩
              repeat (first | refine BCase.yes rfl ?_ | refine BCase.no rfl ?_)
              refine ⟨everyL.length - (i + 1), envK l true x (a :: (acc ++ [c])) (i + 1 : Nat), hpK l x (a :: (acc ++ [c])), by omega, .same ?_ ?_, i + 1, rfl, hi', by rw [hs]; rfl, by rw [hs]; rfl⟩
              · refine ⟨.inl rfl, .inl rfl, .inl rfl, .inl rfl, .inl rfl, .inl rfl, .inl rfl, .inl ?_, .inl rfl, .inl ?_, ?_⟩
                · show V.psl 2 (mdsV ((a :: acc) ++ [c])) (.own 3) = _
                  exact congrArg (fun z => V.psl 2 z (.own 3)) (by simp [mdsV]; rfl)
                · exact congrArg (V.int .i64) (wrs i 1 (by omega))
                · repeat (first | exact trivial | refine ⟨.inl rfl, ?_⟩ | refine ⟨.inr rfl, ?_⟩)
              · show [rB l, mB2 52 x, some (.cells 44 [.nils]), some (.token 2 ((acc ++ [c]).length + 1))] = _
                rw [List.length_append, List.length_singleton]
                exact congrArg (fun n => [rB l, mB2 52 x, some (.cells 44 [.nils]), some (.token 2 n)]) (show acc.length + 1 + 1 = (mdsV (a :: acc)).length + 1 by rw [hla])
            · repeat (first | refine BCase.yes rfl ?_ | refine BCase.no rfl ?_)
              have hk : keep true l x c = false := by unfold keep; rw [m1, hin]; rfl
              have hs := filt_snoc (keep true l x) hc
              rw [hacc, hk] at hs
              simp only [Bool.false_eq_true, if_false, List.append_nil] at hs
              repeat (first | refine BCase.yes rfl ?_ | refine BCase.no rfl ?_)
              refine ⟨everyL.length - (i + 1), envK l true x (a :: acc) (i + 1 : Nat), hpK l x (a :: acc), by omega, .same ?_ rfl, i + 1, rfl, hi', by rw [hs], by rw [hs]⟩
              refine ⟨.inl rfl, .inl rfl, .inl rfl, .inl rfl, .inl rfl, .inl rfl, .inl rfl, .inl rfl, .inl rfl, .inl ?_, ?_⟩
              · exact congrArg (V.int .i64) (wrs i 1 (by omega))
              · repeat (first | exact trivial | refine ⟨.inl rfl, ?_⟩ | refine ⟨.inr rfl, ?_⟩)
      · have hi' : i = everyL.length := by have := of_decide_eq_false h; omega
        have hfin : oneL true l x = a :: acc := by
          unfold oneL
          rw [← hacc, hi', List.take_length]
        rw [hfin]
        exact ⟨_, _, rfl, .inr (.inr (.inl ⟨_, _, _, rfl, rfl⟩)), rfl⟩
    | false =>
      refine ⟨fun h => ?_, fun h => ?_⟩
      · have hi' : i < everyL.length := by have := of_decide_eq_true h; omega
        obtain ⟨c, hc⟩ : ∃ c, everyL[i]? = some c := ⟨_, List.getElem?_eq_getElem hi'⟩
        refine DrawP.intro tysOk mixed false ?_
        refine ⟨mdC c, ⟨by omega, mdsV_get hc⟩, ?_⟩
        refine ⟨fun he => ?_, fun he => ?_⟩
        · repeat (first | refine BCase.yes rfl ?_ | refine BCase.no rfl ?_)
          rw [md_eq] at he
          have m1 : meant c x = true := by unfold meant; rw [he]; rfl
          refine ⟨by kernel_rfl, ?_⟩
          refine DrawP.intro tysOk mixed false ?_
          repeat (first | refine BCase.yes rfl ?_ | refine BCase.no rfl ?_)
          refine ⟨by kernel_rfl, ?_⟩
          repeat (first | refine BCase.yes rfl ?_ | refine BCase.no rfl ?_)
          have hk : keep false l x c = false := by unfold keep; rw [m1]; rfl
          have hs := filt_snoc (keep false l x) hc
          rw [hacc, hk] at hs
          simp only [Bool.false_eq_true, if_false, List.append_nil] at hs
          repeat (first | refine BCase.yes rfl ?_ | refine BCase.no rfl ?_)
          refine ⟨everyL.length - (i + 1), envK l false x (a :: acc) (i + 1 : Nat), hpK l x (a :: acc), by omega, .same ?_ rfl, i + 1, rfl, hi', by rw [hs], by rw [hs]⟩
          refine ⟨.inl rfl, .inl rfl, .inl rfl, .inl rfl, .inl rfl, .inl rfl, .inl rfl, .inl rfl, .inl rfl, .inl ?_, ?_⟩
          · exact congrArg (V.int .i64) (wrs i 1 (by omega))
          · repeat (first | exact trivial | refine ⟨.inl rfl, ?_⟩ | refine ⟨.inr rfl, ?_⟩)
        · repeat (first | refine BCase.yes rfl ?_ | refine BCase.no rfl ?_)
          rw [md_eq] at he
          refine ⟨mdC c, ⟨by omega, mdsV_get hc⟩, ?_⟩
          repeat (first | refine BCase.yes rfl ?_ | refine BCase.no rfl ?_)
          refine ⟨_, (ralt_fn c).callT _ _, ?_⟩
          repeat (first | refine BCase.yes rfl ?_ | refine BCase.no rfl ?_)
          refine ⟨fun ha => ?_, fun ha => ?_⟩
          · repeat (first | refine BCase.yes rfl ?_ | refine BCase.no rfl ?_)
            refine ⟨_, (ralt_fn x).callT _ _, ?_⟩
            repeat (first | refine BCase.yes rfl ?_ | refine BCase.no rfl ?_)
            cases hb : altR x with
            | true =>
              have m1 : meant c x = true := by unfold meant; rw [he, ha, hb]; rfl
              refine ⟨by kernel_rfl, ?_⟩
              refine DrawP.intro tysOk mixed false ?_
              repeat (first | refine BCase.yes rfl ?_ | refine BCase.no rfl ?_)
              refine ⟨by kernel_rfl, ?_⟩
              repeat (first | refine BCase.yes rfl ?_ | refine BCase.no rfl ?_)
              have hk : keep false l x c = false := by unfold keep; rw [m1]; rfl
              have hs := filt_snoc (keep false l x) hc
              rw [hacc, hk] at hs
              simp only [Bool.false_eq_true, if_false, List.append_nil] at hs
              repeat (first | refine BCase.yes rfl ?_ | refine BCase.no rfl ?_)
              refine ⟨everyL.length - (i + 1), envK l false x (a :: acc) (i + 1 : Nat), hpK l x (a :: acc), by omega, .same ?_ rfl, i + 1, rfl, hi', by rw [hs], by rw [hs]⟩
              refine ⟨.inl rfl, .inl rfl, .inl rfl, .inl rfl, .inl rfl, .inl rfl, .inl rfl, .inl rfl, .inl rfl, .inl ?_, ?_⟩
              · exact congrArg (V.int .i64) (wrs i 1 (by omega))
              · repeat (first | exact trivial | refine ⟨.inl rfl, ?_⟩ | refine ⟨.inr rfl, ?_⟩)
            | false =>
              have m1 : meant c x = false := by unfold meant; rw [he, ha, hb]; rfl
              refine ⟨by kernel_rfl, ?_⟩
              refine DrawP.intro tysOk mixed false ?_
              repeat (first | refine BCase.yes rfl ?_ | refine BCase.no rfl ?_)
              refine ⟨mdC c, ⟨by omega, mdsV_get hc⟩, ?_⟩
              repeat (first | refine BCase.yes rfl ?_ | refine BCase.no rfl ?_)
              refine ⟨_, (ris_fn l hl c).callT _ _, ?_⟩
              repeat (first | refine BCase.yes rfl ?_ | refine BCase.no rfl ?_)
              refine ⟨by kernel_rfl, ?_⟩
              refine ⟨fun hin => ?_, fun hin => ?_⟩
              · repeat (first | refine BCase.yes rfl ?_ | refine BCase.no rfl ?_)
                have hk : keep false l x c = true := by unfold keep; rw [m1, hin]; rfl
                have hs := filt_snoc (keep false l x) hc
                rw [hacc, hk] at hs
                refine ⟨mdC c, ⟨by omega, mdsV_get hc⟩, ?_⟩
                refine gdP rfl ?_
                refine gdP ?_ ?_
                · show (Nat.beq 2 2 && Nat.beq 2 2 && Nat.beq (acc.length + 1) (mdsV (a :: acc)).length && (Nat.blt 0 2 && Nat.blt 0 16 && Nat.ble (((mdsV (a :: acc)).length + 1) * (2 * 16)) 281474976710656)) = true
                  rw [hla]
                  simp only [Bool.and_eq_true]
                  exact ⟨⟨⟨rfl, rfl⟩, Nat.beq_refl _⟩, ⟨rfl, rfl⟩, Nat.ble_eq_true_of_le (by omega)⟩
                repeat (first | refine BCase.yes rfl ?_ | refine BCase.no rfl ?_)
                refine ⟨everyL.length - (i + 1), envK l false x (a :: (acc ++ [c])) (i + 1 : Nat), hpK l x (a :: (acc ++ [c])), by omega, .same ?_ ?_, i + 1, rfl, hi', by rw [hs]; rfl, by rw [hs]; rfl⟩
                · refine ⟨.inl rfl, .inl rfl, .inl rfl, .inl rfl, .inl rfl, .inl rfl, .inl rfl, .inl ?_, .inl rfl, .inl ?_, ?_⟩
                  · show V.psl 2 (mdsV ((a :: acc) ++ [c])) (.own 3) = _
                    exact congrArg (fun z => V.psl 2 z (.own 3)) (by simp [mdsV]; rfl)
                  · exact congrArg (V.int .i64) (wrs i 1 (by omega))
                  · repeat (first | exact trivial | refine ⟨.inl rfl, ?_⟩ | refine ⟨.inr rfl, ?_⟩)
                · show [rB l, mB2 52 x, some (.cells 44 [.nils]), some (.token 2 ((acc ++ [c]).length + 1))] = _
                  rw [List.length_append, List.length_singleton]
                  exact congrArg (fun n => [rB l, mB2 52 x, some (.cells 44 [.nils]), some (.token 2 n)]) (show acc.length + 1 + 1 = (mdsV (a :: acc)).length + 1 by rw [hla])
              · repeat (first | refine BCase.yes rfl ?_ | refine BCase.no rfl ?_)
                have hk : keep false l x c = false := by unfold keep; rw [m1, hin]; rfl
                have hs := filt_snoc (keep false l x) hc
                rw [hacc, hk] at hs
                simp only [Bool.false_eq_true, if_false, List.append_nil] at hs
                repeat (first | refine BCase.yes rfl ?_ | refine BCase.no rfl ?_)
                refine ⟨everyL.length - (i + 1), envK l false x (a :: acc) (i + 1 : Nat), hpK l x (a :: acc), by omega, .same ?_ rfl, i + 1, rfl, hi', by rw [hs], by rw [hs]⟩
                refine ⟨.inl rfl, .inl rfl, .inl rfl, .inl rfl, .inl rfl, .inl rfl, .inl rfl, .inl rfl, .inl rfl, .inl ?_, ?_⟩
                · exact congrArg (V.int .i64) (wrs i 1 (by omega))
                · repeat (first | exact trivial | refine ⟨.inl rfl, ?_⟩ | refine ⟨.inr rfl, ?_⟩)
          · repeat (first | refine BCase.yes rfl ?_ | refine BCase.no rfl ?_)
            have m1 : meant c x = false := by unfold meant; rw [he, ha]; rfl
            refine ⟨by kernel_rfl, ?_⟩
            refine DrawP.intro tysOk mixed false ?_
            repeat (first | refine BCase.yes rfl ?_ | refine BCase.no rfl ?_)
            refine ⟨mdC c, ⟨by omega, mdsV_get hc⟩, ?_⟩
            repeat (first | refine BCase.yes rfl ?_ | refine BCase.no rfl ?_)
            refine ⟨_, (ris_fn l hl c).callT _ _, ?_⟩
            repeat (first | refine BCase.yes rfl ?_ | refine BCase.no rfl ?_)
            refine ⟨by kernel_rfl, ?_⟩
            refine ⟨fun hin => ?_, fun hin => ?_⟩
            · repeat (first | refine BCase.yes rfl ?_ | refine BCase.no rfl ?_)
              have hk : keep false l x c = true := by unfold keep; rw [m1, hin]; rfl
              have hs := filt_snoc (keep false l x) hc
              rw [hacc, hk] at hs
              refine ⟨mdC c, ⟨by omega, mdsV_get hc⟩, ?_⟩
              refine gdP rfl ?_
              refine gdP ?_ ?_
              · show (Nat.beq 2 2 && Nat.beq 2 2 && Nat.beq (acc.length + 1) (mdsV (a :: acc)).length && (Nat.blt 0 2 && Nat.blt 0 16 && Nat.ble (((mdsV (a :: acc)).length + 1) * (2 * 16)) 281474976710656)) = true
                rw [hla]
                simp only [Bool.and_eq_true]
                exact ⟨⟨⟨rfl, rfl⟩, Nat.beq_refl _⟩, ⟨rfl, rfl⟩, Nat.ble_eq_true_of_le (by omega)⟩
              repeat (first | refine BCase.yes rfl ?_ | refine BCase.no rfl ?_)
              refine ⟨everyL.length - (i + 1), envK l false x (a :: (acc ++ [c])) (i + 1 : Nat), hpK l x (a :: (acc ++ [c])), by omega, .same ?_ ?_, i + 1, rfl, hi', by rw [hs]; rfl, by rw [hs]; rfl⟩
              · refine ⟨.inl rfl, .inl rfl, .inl rfl, .inl rfl, .inl rfl, .inl rfl, .inl rfl, .inl ?_, .inl rfl, .inl ?_, ?_⟩
                · show V.psl 2 (mdsV ((a :: acc) ++ [c])) (.own 3) = _
                  exact congrArg (fun z => V.psl 2 z (.own 3)) (by simp [mdsV]; rfl)
                · exact congrArg (V.int .i64) (wrs i 1 (by omega))
                · repeat (first | exact trivial | refine ⟨.inl rfl, ?_⟩ | refine ⟨.inr rfl, ?_⟩)
              · show [rB l, mB2 52 x, some (.cells 44 [.nils]), some (.token 2 ((acc ++ [c]).length + 1))] = _
                rw [List.length_append, List.length_singleton]
                exact congrArg (fun n => [rB l, mB2 52 x, some (.cells 44 [.nils]), some (.token 2 n)]) (show acc.length + 1 + 1 = (mdsV (a :: acc)).length + 1 by rw [hla])
            · repeat (first | refine BCase.yes rfl ?_ | refine BCase.no rfl ?_)
              have hk : keep false l x c = false := by unfold keep; rw [m1, hin]; rfl
              have hs := filt_snoc (keep false l x) hc
              rw [hacc, hk] at hs
              simp only [Bool.false_eq_true, if_false, List.append_nil] at hs
              repeat (first | refine BCase.yes rfl ?_ | refine BCase.no rfl ?_)
              refine ⟨everyL.length - (i + 1), envK l false x (a :: acc) (i + 1 : Nat), hpK l x (a :: acc), by omega, .same ?_ rfl, i + 1, rfl, hi', by rw [hs], by rw [hs]⟩
              refine ⟨.inl rfl, .inl rfl, .inl rfl, .inl rfl, .inl rfl, .inl rfl, .inl rfl, .inl rfl, .inl rfl, .inl ?_, ?_⟩
              · exact congrArg (V.int .i64) (wrs i 1 (by omega))
              · repeat (first | exact trivial | refine ⟨.inl rfl, ?_⟩ | refine ⟨.inr rfl, ?_⟩)
      · have hi' : i = everyL.length := by have := of_decide_eq_false h; omega
        have hfin : oneL false l x = a :: acc := by
          unfold oneL
          rw [← hacc, hi', List.take_length]
        rw [hfin]
        exact ⟨_, _, rfl, .inr (.inr (.inl ⟨_, _, _, rfl, rfl⟩)), rfl⟩
end Go.Cx
