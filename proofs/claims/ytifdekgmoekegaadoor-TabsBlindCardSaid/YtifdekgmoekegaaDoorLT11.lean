/- What functions of this seat compute, each for every argument of the shapes that are named; no condition beside the stated ones. -/
import Derived.Test.YtifdekgmoekegaaDoorLT10
namespace Go.Cx
open Go.Proofs
set_option maxRecDepth 100000
set_option maxHeartbeats 10000000
def actsV (l : List Ac) : List (List V) := l.map Ac.cs
theorem actsV_len (l : List Ac) : (actsV l).length = l.length := by simp [actsV]
theorem actsV_get {l : List Ac} {i : Nat} {a : Ac} (h : l[i]? = some a) : (actsV l)[i]? = some a.cs := by simp [actsV, h]
def cols3 (c : Nat → Int) : V := .agg [.int .u16 (c 0), .int .u16 (c 1), .int .u16 (c 2)]
def envZ (c : Nat → Int) (l : List Ac) (i : Int) : List V := cols3 c :: .psl 4 (actsV l) .any :: .ptr 0 0 :: .undef :: .bool false :: .ptr 1 0 :: .int .i64 i :: List.replicate 118 .undef
def c3B (c : Nat → Int) : Option Blk := some (.cells 49 [.int .u16 (c 0), .int .u16 (c 1), .int .u16 (c 2)])
def tB (t : Tb) : Option Blk := some (.cells 29 t.cs)
theorem firstBp (j : Nat) (h0 : decide ((j : Int) > 0) = true) : firstB j = ((j : Int).tmod 8 == 0) := by
  unfold firstB
  have h0 := of_decide_eq_true h0
  rw [Int.tmod_eq_emod_of_nonneg (by omega)]
  rw [Bool.eq_iff_iff]
  simp only [Bool.and_eq_true, decide_eq_true_eq, beq_iff_eq]
  omega
theorem firstB0 (j : Nat) (h0 : decide ((j : Int) > 0) = false) : firstB j = false := by
  have h0 := of_decide_eq_false h0
  have : j = 0 := by omega
  rw [this]; rfl
def lowI (x y z : Int) : Int := if z < (if y < x then y else x) then z else if y < x then y else x
def envY (c : Nat → Int) (l : List Ac) (low j : Int) : List V := cols3 c :: .psl 4 (actsV l) .any :: .ptr 0 0 :: .undef :: .bool false :: .ptr 1 0 :: .undef :: .ptr 2 0 :: .ptr 3 0 :: .int .i64 low :: .int .i64 j :: List.replicate 114 .undef
theorem rem600 (x : Int) (h : 0 ≤ x ∧ x < 65536) : IntKind.i64.wrap (x.tmod 600) = x % 600 := by
  rw [Int.tmod_eq_emod_of_nonneg h.1, wr64] <;> omega
theorem sizes_sem (c : Nat → Int) (hc : ∀ i, 0 ≤ c i ∧ c i < 65536) (l : List Ac) (hl : ∀ a ∈ l, a.ok) (_hlen : l.length ≤ maxLen) : Sem Tryd.prog 6 [cols3 c, .psl 4 (actsV l) .any] [] fun v _ => v = .bool true := by
  have hal := actsV_len l
  have n1 := rem600 (c 1) (hc 1)
  have n2 := rem600 (c 2) (hc 2)
  refine Sem.of_body tysOk md0 Tryd.func6 rfl rfl ?_
  refine works.sem _ ?_
  refine BCase.no rfl ?_
  refine (new_fn _ 0).sem _ ?_
  refine LoopP.inv (md := md0) (fun k env h => ∃ (i : Nat) (t : Tb), k = l.length - i ∧ i ≤ l.length ∧ i ≤ 20 ∧ t.good ∧ env = envZ c l i ∧ h = [c3B c, tB t]) l.length ⟨envZ c l 0, _, .same (by repeat (first | exact trivial | refine ⟨.inl rfl, ?_⟩ | refine ⟨.inr rfl, ?_⟩)) rfl, 0, _, rfl, Nat.zero_le _, Nat.zero_le _, resize_good (zero_good 0) _, rfl, rfl⟩ ?_
  rintro k _ _ ⟨i, t, rfl, hil, hi20, ht, rfl, rfl⟩
  refine ⟨fun h => ?_, fun h => ?_⟩
  · have hi' : i < l.length := by have := of_decide_eq_true h; omega
    repeat (first | refine BCase.yes rfl ?_ | refine BCase.no rfl ?_)
    refine ⟨fun h20 => ?_, fun h20 => ?_⟩
    · have h20' : i < 20 := by have := of_decide_eq_true h20; omega
      obtain ⟨a, ha⟩ : ∃ a, l[i]? = some a := ⟨_, List.getElem?_eq_getElem hi'⟩
      have hao := hl a (List.mem_of_getElem? ha)
      refine ⟨a.cs, ⟨by omega, actsV_get ha⟩, ?_⟩
      refine ⟨fun hw => ?_, fun hw => ?_⟩
      · refine DrawP.intro tysOk mixed false ?_
        refine ⟨a.cs, ⟨by omega, actsV_get ha⟩, ?_⟩
        refine ⟨_, (does_fn a hao t ht.ok).callT _ _, ?_⟩
        refine ⟨by kernel_rfl, ?_⟩
        refine ⟨l.length - (i + 1), envZ c l (i + 1 : Nat), [c3B c, tB (a.does t)], by omega, .same ?_ rfl, i + 1, a.does t, rfl, hi', h20', does_good a ht, rfl, rfl⟩
        refine ⟨.inl rfl, .inl rfl, .inl rfl, .inl rfl, .inl rfl, .inl rfl, .inl ?_, ?_⟩
        · exact congrArg (V.int .i64) (wrs i 1 (by omega))
        · repeat (first | exact trivial | refine ⟨.inl rfl, ?_⟩ | refine ⟨.inr rfl, ?_⟩)
      · refine ⟨l.length - (i + 1), envZ c l (i + 1 : Nat), [c3B c, tB t], by omega, .same ?_ rfl, i + 1, t, rfl, hi', h20', ht, rfl, rfl⟩
        refine ⟨.inl rfl, .inl rfl, .inl rfl, .inl rfl, .inl rfl, .inl rfl, .inl ?_, ?_⟩
        · exact congrArg (V.int .i64) (wrs i 1 (by omega))
        · repeat (first | exact trivial | refine ⟨.inl rfl, ?_⟩ | refine ⟨.inr rfl, ?_⟩)
    · refine (resize_fn t ht.ok _).sem _ ?_
      refine (resize_fn _ (resize_good ht _).ok _).sem _ ?_
      rw [n1, n2]
      refine DrawP.intro tysOk mixed false ?_
      refine ⟨_, (cols_fn t).callT _ _, ?_⟩
      refine ⟨_, (cols_fn _).callT _ _, ?_⟩
      refine ⟨_, (cols_fn _).callT _ _, ?_⟩
      refine ⟨by kernel_rfl, ?_⟩
      have acols : (t.resize (c 1 % 600)).cols = (clampN (c 1 % 600) : Nat) := rfl
      have bcols : ((t.resize (c 1 % 600)).resize (c 2 % 600)).cols = (clampN (c 2 % 600) : Nat) := rfl
      have tcols : t.cols = (t.n : Nat) := by have := ht.ok.c0; unfold Tb.n; omega
      have hcl := clampN_le (c 2 % 600)
      refine LoopP.inv (md := md0) (fun k env h => ∃ (j : Nat), k = clampN (c 2 % 600) - j ∧ j ≤ clampN (c 2 % 600) ∧ env = envY c l (lowI t.cols (t.resize (c 1 % 600)).cols ((t.resize (c 1 % 600)).resize (c 2 % 600)).cols) j ∧ h = [c3B c, tB t, tB (t.resize (c 1 % 600)), tB ((t.resize (c 1 % 600)).resize (c 2 % 600))]) (clampN (c 2 % 600)) ⟨envY c l _ 0, _, .same (by repeat (first | exact trivial | refine ⟨.inl rfl, ?_⟩ | refine ⟨.inr rfl, ?_⟩)) rfl, 0, rfl, Nat.zero_le _, rfl, rfl⟩ ?_
      rintro k _ _ ⟨j, rfl, hjl, rfl, rfl⟩
      refine (cols_fn _).sem _ ?_
      refine ⟨fun hj => ?_, fun hj => ?_⟩
      · have hjb : j < clampN (c 2 % 600) := by have := of_decide_eq_true hj; rw [bcols] at this; omega
        have lowE : lowI t.cols (t.resize (c 1 % 600)).cols ((t.resize (c 1 % 600)).resize (c 2 % 600)).cols = ((min t.n (min (clampN (c 1 % 600)) (clampN (c 2 % 600))) : Nat) : Int) := by
          rw [acols, bcols, tcols]; unfold lowI; split <;> split <;> omega
        refine ⟨fun h0 => ?_, fun h0 => ?_⟩
        · repeat (first | refine BCase.yes rfl ?_ | refine BCase.no rfl ?_)
          refine ⟨fun hlow => ?_, fun hlow => ?_⟩
          · have hlow' := of_decide_eq_true hlow
            rw [lowE] at hlow'
            refine (has_fn t ht.ok _).sem _ ?_
            refine (has_fn _ (resize_good (resize_good ht _) _).ok _).sem _ ?_
            refine ⟨fun hne => ?_, fun hne => ?_⟩
            · exfalso
              have := (sizes_col t ht (c 1 % 600) (c 2 % 600) j hjb).1 (by omega)
              simp [this] at hne
            · repeat (first | refine BCase.yes rfl ?_ | refine BCase.no rfl ?_)
              refine ⟨(clampN (c 2 % 600)) - (j + 1), envY c l (lowI t.cols (t.resize (c 1 % 600)).cols ((t.resize (c 1 % 600)).resize (c 2 % 600)).cols) (j + 1 : Nat), [c3B c, tB t, tB (t.resize (c 1 % 600)), tB ((t.resize (c 1 % 600)).resize (c 2 % 600))], by omega, .same ?_ rfl, j + 1, rfl, by omega, rfl, rfl⟩
              refine ⟨.inl rfl, .inl rfl, .inl rfl, .inl rfl, .inl rfl, .inl rfl, .inr rfl, .inl rfl, .inl rfl, .inl rfl, .inl ?_, ?_⟩
              · exact congrArg (V.int .i64) (wrs j 1 (by omega))
              · repeat (first | exact trivial | refine ⟨.inl rfl, ?_⟩ | refine ⟨.inr rfl, ?_⟩)
          · have hlow' := of_decide_eq_false hlow
            rw [lowE] at hlow'
            refine (has_fn _ (resize_good (resize_good ht _) _).ok _).sem _ ?_
            refine ⟨fun hne => ?_, fun hne => ?_⟩
            · have hnn : ¬ (clampN (c 1 % 600) ≤ j ∨ t.n ≤ j) := fun hor => by
                have := (sizes_col t ht (c 1 % 600) (c 2 % 600) j hjb).2 hor (by omega)
                have hw : firstB j = (((j : Int).tmod 8 == 0)) := firstBp j h0
                rw [hw] at this
                simp [this] at hne
              repeat (first | refine BCase.yes rfl ?_ | refine BCase.no rfl ?_)
              refine BCase.no hlow ?_
              repeat (first | refine BCase.yes rfl ?_ | refine BCase.no rfl ?_)
              refine (cols_fn _).sem _ ?_
              repeat (first | refine BCase.yes rfl ?_ | refine BCase.no rfl ?_)
              refine BCase.no (decide_eq_false (by rw [acols]; omega)) ?_
              repeat (first | refine BCase.yes rfl ?_ | refine BCase.no rfl ?_)
              refine (cols_fn t).sem _ ?_
              repeat (first | refine BCase.yes rfl ?_ | refine BCase.no rfl ?_)
              refine BCase.no (decide_eq_false (by rw [tcols]; omega)) ?_
              refine ⟨(clampN (c 2 % 600)) - (j + 1), envY c l (lowI t.cols (t.resize (c 1 % 600)).cols ((t.resize (c 1 % 600)).resize (c 2 % 600)).cols) (j + 1 : Nat), [c3B c, tB t, tB (t.resize (c 1 % 600)), tB ((t.resize (c 1 % 600)).resize (c 2 % 600))], by omega, .same ?_ rfl, j + 1, rfl, by omega, rfl, rfl⟩
              refine ⟨.inl rfl, .inl rfl, .inl rfl, .inl rfl, .inl rfl, .inl rfl, .inr rfl, .inl rfl, .inl rfl, .inl rfl, .inl ?_, ?_⟩
              · exact congrArg (V.int .i64) (wrs j 1 (by omega))
              · repeat (first | exact trivial | refine ⟨.inl rfl, ?_⟩ | refine ⟨.inr rfl, ?_⟩)
            · repeat (first | refine BCase.yes rfl ?_ | refine BCase.no rfl ?_)
              refine ⟨(clampN (c 2 % 600)) - (j + 1), envY c l (lowI t.cols (t.resize (c 1 % 600)).cols ((t.resize (c 1 % 600)).resize (c 2 % 600)).cols) (j + 1 : Nat), [c3B c, tB t, tB (t.resize (c 1 % 600)), tB ((t.resize (c 1 % 600)).resize (c 2 % 600))], by omega, .same ?_ rfl, j + 1, rfl, by omega, rfl, rfl⟩
              refine ⟨.inl rfl, .inl rfl, .inl rfl, .inl rfl, .inl rfl, .inl rfl, .inr rfl, .inl rfl, .inl rfl, .inl rfl, .inl ?_, ?_⟩
              · exact congrArg (V.int .i64) (wrs j 1 (by omega))
              · repeat (first | exact trivial | refine ⟨.inl rfl, ?_⟩ | refine ⟨.inr rfl, ?_⟩)
        · repeat (first | refine BCase.yes rfl ?_ | refine BCase.no rfl ?_)
          refine ⟨fun hlow => ?_, fun hlow => ?_⟩
          · have hlow' := of_decide_eq_true hlow
            rw [lowE] at hlow'
            refine (has_fn t ht.ok _).sem _ ?_
            refine (has_fn _ (resize_good (resize_good ht _) _).ok _).sem _ ?_
            refine ⟨fun hne => ?_, fun hne => ?_⟩
            · exfalso
              have := (sizes_col t ht (c 1 % 600) (c 2 % 600) j hjb).1 (by omega)
              simp [this] at hne
            · repeat (first | refine BCase.yes rfl ?_ | refine BCase.no rfl ?_)
              refine ⟨(clampN (c 2 % 600)) - (j + 1), envY c l (lowI t.cols (t.resize (c 1 % 600)).cols ((t.resize (c 1 % 600)).resize (c 2 % 600)).cols) (j + 1 : Nat), [c3B c, tB t, tB (t.resize (c 1 % 600)), tB ((t.resize (c 1 % 600)).resize (c 2 % 600))], by omega, .same ?_ rfl, j + 1, rfl, by omega, rfl, rfl⟩
              refine ⟨.inl rfl, .inl rfl, .inl rfl, .inl rfl, .inl rfl, .inl rfl, .inr rfl, .inl rfl, .inl rfl, .inl rfl, .inl ?_, ?_⟩
              · exact congrArg (V.int .i64) (wrs j 1 (by omega))
              · repeat (first | exact trivial | refine ⟨.inl rfl, ?_⟩ | refine ⟨.inr rfl, ?_⟩)
          · have hlow' := of_decide_eq_false hlow
            rw [lowE] at hlow'
            refine (has_fn _ (resize_good (resize_good ht _) _).ok _).sem _ ?_
            refine ⟨fun hne => ?_, fun hne => ?_⟩
            · have hnn : ¬ (clampN (c 1 % 600) ≤ j ∨ t.n ≤ j) := fun hor => by
                have := (sizes_col t ht (c 1 % 600) (c 2 % 600) j hjb).2 hor (by omega)
                have hw : firstB j = (false) := firstB0 j h0
                rw [hw] at this
                simp [this] at hne
              repeat (first | refine BCase.yes rfl ?_ | refine BCase.no rfl ?_)
              refine BCase.no hlow ?_
              repeat (first | refine BCase.yes rfl ?_ | refine BCase.no rfl ?_)
              refine (cols_fn _).sem _ ?_
              repeat (first | refine BCase.yes rfl ?_ | refine BCase.no rfl ?_)
              refine BCase.no (decide_eq_false (by rw [acols]; omega)) ?_
              repeat (first | refine BCase.yes rfl ?_ | refine BCase.no rfl ?_)
              refine (cols_fn t).sem _ ?_
              repeat (first | refine BCase.yes rfl ?_ | refine BCase.no rfl ?_)
              refine BCase.no (decide_eq_false (by rw [tcols]; omega)) ?_
              refine ⟨(clampN (c 2 % 600)) - (j + 1), envY c l (lowI t.cols (t.resize (c 1 % 600)).cols ((t.resize (c 1 % 600)).resize (c 2 % 600)).cols) (j + 1 : Nat), [c3B c, tB t, tB (t.resize (c 1 % 600)), tB ((t.resize (c 1 % 600)).resize (c 2 % 600))], by omega, .same ?_ rfl, j + 1, rfl, by omega, rfl, rfl⟩
              refine ⟨.inl rfl, .inl rfl, .inl rfl, .inl rfl, .inl rfl, .inl rfl, .inr rfl, .inl rfl, .inl rfl, .inl rfl, .inl ?_, ?_⟩
              · exact congrArg (V.int .i64) (wrs j 1 (by omega))
              · repeat (first | exact trivial | refine ⟨.inl rfl, ?_⟩ | refine ⟨.inr rfl, ?_⟩)
            · repeat (first | refine BCase.yes rfl ?_ | refine BCase.no rfl ?_)
              refine ⟨(clampN (c 2 % 600)) - (j + 1), envY c l (lowI t.cols (t.resize (c 1 % 600)).cols ((t.resize (c 1 % 600)).resize (c 2 % 600)).cols) (j + 1 : Nat), [c3B c, tB t, tB (t.resize (c 1 % 600)), tB ((t.resize (c 1 % 600)).resize (c 2 % 600))], by omega, .same ?_ rfl, j + 1, rfl, by omega, rfl, rfl⟩
              refine ⟨.inl rfl, .inl rfl, .inl rfl, .inl rfl, .inl rfl, .inl rfl, .inr rfl, .inl rfl, .inl rfl, .inl rfl, .inl ?_, ?_⟩
              · exact congrArg (V.int .i64) (wrs j 1 (by omega))
              · repeat (first | exact trivial | refine ⟨.inl rfl, ?_⟩ | refine ⟨.inr rfl, ?_⟩)
      · have hjb : clampN (c 2 % 600) ≤ j := by have := of_decide_eq_false hj; rw [bcols] at this; omega
        have hself : Fn Tryd.prog 24 [t.v, .int .i64 t.cols] t.v := by have := resize_fn t ht.ok t.cols; rwa [resize_self t ht] at this
        refine DrawP.intro tysOk mixed false ?_
        refine ⟨_, (label_fn _).callT _ _, ?_⟩
        refine ⟨_, (label_fn t).callT _ _, ?_⟩
        refine BCase.yes (by simp [Tb.resize]) ?_
        repeat (first | refine BCase.yes rfl ?_ | refine BCase.no rfl ?_)
        refine ⟨_, (cols_fn _).callT _ _, ?_⟩
        repeat (first | refine BCase.yes rfl ?_ | refine BCase.no rfl ?_)
        rw [n2]
        refine BCase.yes ?_ ?_
        · rw [bcols, beq_iff_eq]
          have := hc 2
          unfold clampN
          split <;> omega
        repeat (first | refine BCase.yes rfl ?_ | refine BCase.no rfl ?_)
        refine ⟨_, (cols_fn t).callT _ _, ?_⟩
        repeat (first | refine BCase.yes rfl ?_ | refine BCase.no rfl ?_)
        refine ⟨_, hself.callT _ _, ?_⟩
        repeat (first | refine BCase.yes rfl ?_ | refine BCase.no rfl ?_)
        refine ⟨by kernel_rfl, ?_⟩
        show V.bool _ = _
        simp
  · repeat (first | refine BCase.yes rfl ?_ | refine BCase.no rfl ?_)
    refine (resize_fn t ht.ok _).sem _ ?_
    refine (resize_fn _ (resize_good ht _).ok _).sem _ ?_
    rw [n1, n2]
    refine DrawP.intro tysOk mixed false ?_
    refine ⟨_, (cols_fn t).callT _ _, ?_⟩
    refine ⟨_, (cols_fn _).callT _ _, ?_⟩
    refine ⟨_, (cols_fn _).callT _ _, ?_⟩
    refine ⟨by kernel_rfl, ?_⟩
    have acols : (t.resize (c 1 % 600)).cols = (clampN (c 1 % 600) : Nat) := rfl
    have bcols : ((t.resize (c 1 % 600)).resize (c 2 % 600)).cols = (clampN (c 2 % 600) : Nat) := rfl
    have tcols : t.cols = (t.n : Nat) := by have := ht.ok.c0; unfold Tb.n; omega
    have hcl := clampN_le (c 2 % 600)
    refine LoopP.inv (md := md0) (fun k env h => ∃ (j : Nat), k = clampN (c 2 % 600) - j ∧ j ≤ clampN (c 2 % 600) ∧ env = envY c l (lowI t.cols (t.resize (c 1 % 600)).cols ((t.resize (c 1 % 600)).resize (c 2 % 600)).cols) j ∧ h = [c3B c, tB t, tB (t.resize (c 1 % 600)), tB ((t.resize (c 1 % 600)).resize (c 2 % 600))]) (clampN (c 2 % 600)) ⟨envY c l _ 0, _, .same (by repeat (first | exact trivial | refine ⟨.inl rfl, ?_⟩ | refine ⟨.inr rfl, ?_⟩)) rfl, 0, rfl, Nat.zero_le _, rfl, rfl⟩ ?_
    rintro k _ _ ⟨j, rfl, hjl, rfl, rfl⟩
    refine (cols_fn _).sem _ ?_
    refine ⟨fun hj => ?_, fun hj => ?_⟩
    · have hjb : j < clampN (c 2 % 600) := by have := of_decide_eq_true hj; rw [bcols] at this; omega
      have lowE : lowI t.cols (t.resize (c 1 % 600)).cols ((t.resize (c 1 % 600)).resize (c 2 % 600)).cols = ((min t.n (min (clampN (c 1 % 600)) (clampN (c 2 % 600))) : Nat) : Int) := by
        rw [acols, bcols, tcols]; unfold lowI; split <;> split <;> omega
      refine ⟨fun h0 => ?_, fun h0 => ?_⟩
      · repeat (first | refine BCase.yes rfl ?_ | refine BCase.no rfl ?_)
        refine ⟨fun hlow => ?_, fun hlow => ?_⟩
        · have hlow' := of_decide_eq_true hlow
          rw [lowE] at hlow'
          refine (has_fn t ht.ok _).sem _ ?_
          refine (has_fn _ (resize_good (resize_good ht _) _).ok _).sem _ ?_
          refine ⟨fun hne => ?_, fun hne => ?_⟩
          · exfalso
            have := (sizes_col t ht (c 1 % 600) (c 2 % 600) j hjb).1 (by omega)
            simp [this] at hne
          · repeat (first | refine BCase.yes rfl ?_ | refine BCase.no rfl ?_)
            refine ⟨(clampN (c 2 % 600)) - (j + 1), envY c l (lowI t.cols (t.resize (c 1 % 600)).cols ((t.resize (c 1 % 600)).resize (c 2 % 600)).cols) (j + 1 : Nat), [c3B c, tB t, tB (t.resize (c 1 % 600)), tB ((t.resize (c 1 % 600)).resize (c 2 % 600))], by omega, .same ?_ rfl, j + 1, rfl, by omega, rfl, rfl⟩
            refine ⟨.inl rfl, .inl rfl, .inl rfl, .inl rfl, .inl rfl, .inl rfl, .inr rfl, .inl rfl, .inl rfl, .inl rfl, .inl ?_, ?_⟩
            · exact congrArg (V.int .i64) (wrs j 1 (by omega))
            · repeat (first | exact trivial | refine ⟨.inl rfl, ?_⟩ | refine ⟨.inr rfl, ?_⟩)
        · have hlow' := of_decide_eq_false hlow
          rw [lowE] at hlow'
          refine (has_fn _ (resize_good (resize_good ht _) _).ok _).sem _ ?_
          refine ⟨fun hne => ?_, fun hne => ?_⟩
          · have hnn : ¬ (clampN (c 1 % 600) ≤ j ∨ t.n ≤ j) := fun hor => by
              have := (sizes_col t ht (c 1 % 600) (c 2 % 600) j hjb).2 hor (by omega)
              have hw : firstB j = (((j : Int).tmod 8 == 0)) := firstBp j h0
              rw [hw] at this
              simp [this] at hne
            repeat (first | refine BCase.yes rfl ?_ | refine BCase.no rfl ?_)
            refine BCase.no hlow ?_
            repeat (first | refine BCase.yes rfl ?_ | refine BCase.no rfl ?_)
            refine (cols_fn _).sem _ ?_
            repeat (first | refine BCase.yes rfl ?_ | refine BCase.no rfl ?_)
            refine BCase.no (decide_eq_false (by rw [acols]; omega)) ?_
            repeat (first | refine BCase.yes rfl ?_ | refine BCase.no rfl ?_)
            refine (cols_fn t).sem _ ?_
            repeat (first | refine BCase.yes rfl ?_ | refine BCase.no rfl ?_)
            refine BCase.no (decide_eq_false (by rw [tcols]; omega)) ?_
            refine ⟨(clampN (c 2 % 600)) - (j + 1), envY c l (lowI t.cols (t.resize (c 1 % 600)).cols ((t.resize (c 1 % 600)).resize (c 2 % 600)).cols) (j + 1 : Nat), [c3B c, tB t, tB (t.resize (c 1 % 600)), tB ((t.resize (c 1 % 600)).resize (c 2 % 600))], by omega, .same ?_ rfl, j + 1, rfl, by omega, rfl, rfl⟩
            refine ⟨.inl rfl, .inl rfl, .inl rfl, .inl rfl, .inl rfl, .inl rfl, .inr rfl, .inl rfl, .inl rfl, .inl rfl, .inl ?_, ?_⟩
            · exact congrArg (V.int .i64) (wrs j 1 (by omega))
            · repeat (first | exact trivial | refine ⟨.inl rfl, ?_⟩ | refine ⟨.inr rfl, ?_⟩)
          · repeat (first | refine BCase.yes rfl ?_ | refine BCase.no rfl ?_)
            refine ⟨(clampN (c 2 % 600)) - (j + 1), envY c l (lowI t.cols (t.resize (c 1 % 600)).cols ((t.resize (c 1 % 600)).resize (c 2 % 600)).cols) (j + 1 : Nat), [c3B c, tB t, tB (t.resize (c 1 % 600)), tB ((t.resize (c 1 % 600)).resize (c 2 % 600))], by omega, .same ?_ rfl, j + 1, rfl, by omega, rfl, rfl⟩
            refine ⟨.inl rfl, .inl rfl, .inl rfl, .inl rfl, .inl rfl, .inl rfl, .inr rfl, .inl rfl, .inl rfl, .inl rfl, .inl ?_, ?_⟩
            · exact congrArg (V.int .i64) (wrs j 1 (by omega))
            · repeat (first | exact trivial | refine ⟨.inl rfl, ?_⟩ | refine ⟨.inr rfl, ?_⟩)
      · repeat (first | refine BCase.yes rfl ?_ | refine BCase.no rfl ?_)
        refine ⟨fun hlow => ?_, fun hlow => ?_⟩
        · have hlow' := of_decide_eq_true hlow
          rw [lowE] at hlow'
          refine (has_fn t ht.ok _).sem _ ?_
          refine (has_fn _ (resize_good (resize_good ht _) _).ok _).sem _ ?_
          refine ⟨fun hne => ?_, fun hne => ?_⟩
          · exfalso
            have := (sizes_col t ht (c 1 % 600) (c 2 % 600) j hjb).1 (by omega)
            simp [this] at hne
          · repeat (first | refine BCase.yes rfl ?_ | refine BCase.no rfl ?_)
            refine ⟨(clampN (c 2 % 600)) - (j + 1), envY c l (lowI t.cols (t.resize (c 1 % 600)).cols ((t.resize (c 1 % 600)).resize (c 2 % 600)).cols) (j + 1 : Nat), [c3B c, tB t, tB (t.resize (c 1 % 600)), tB ((t.resize (c 1 % 600)).resize (c 2 % 600))], by omega, .same ?_ rfl, j + 1, rfl, by omega, rfl, rfl⟩
            refine ⟨.inl rfl, .inl rfl, .inl rfl, .inl rfl, .inl rfl, .inl rfl, .inr rfl, .inl rfl, .inl rfl, .inl rfl, .inl ?_, ?_⟩
            · exact congrArg (V.int .i64) (wrs j 1 (by omega))
            · repeat (first | exact trivial | refine ⟨.inl rfl, ?_⟩ | refine ⟨.inr rfl, ?_⟩)
        · have hlow' := of_decide_eq_false hlow
          rw [lowE] at hlow'
          refine (has_fn _ (resize_good (resize_good ht _) _).ok _).sem _ ?_
          refine ⟨fun hne => ?_, fun hne => ?_⟩
          · have hnn : ¬ (clampN (c 1 % 600) ≤ j ∨ t.n ≤ j) := fun hor => by
              have := (sizes_col t ht (c 1 % 600) (c 2 % 600) j hjb).2 hor (by omega)
              have hw : firstB j = (false) := firstB0 j h0
              rw [hw] at this
              simp [this] at hne
            repeat (first | refine BCase.yes rfl ?_ | refine BCase.no rfl ?_)
            refine BCase.no hlow ?_
            repeat (first | refine BCase.yes rfl ?_ | refine BCase.no rfl ?_)
            refine (cols_fn _).sem _ ?_
            repeat (first | refine BCase.yes rfl ?_ | refine BCase.no rfl ?_)
            refine BCase.no (decide_eq_false (by rw [acols]; omega)) ?_
            repeat (first | refine BCase.yes rfl ?_ | refine BCase.no rfl ?_)
            refine (cols_fn t).sem _ ?_
            repeat (first | refine BCase.yes rfl ?_ | refine BCase.no rfl ?_)
            refine BCase.no (decide_eq_false (by rw [tcols]; omega)) ?_
            refine ⟨(clampN (c 2 % 600)) - (j + 1), envY c l (lowI t.cols (t.resize (c 1 % 600)).cols ((t.resize (c 1 % 600)).resize (c 2 % 600)).cols) (j + 1 : Nat), [c3B c, tB t, tB (t.resize (c 1 % 600)), tB ((t.resize (c 1 % 600)).resize (c 2 % 600))], by omega, .same ?_ rfl, j + 1, rfl, by omega, rfl, rfl⟩
            refine ⟨.inl rfl, .inl rfl, .inl rfl, .inl rfl, .inl rfl, .inl rfl, .inr rfl, .inl rfl, .inl rfl, .inl rfl, .inl ?_, ?_⟩
            · exact congrArg (V.int .i64) (wrs j 1 (by omega))
            · repeat (first | exact trivial | refine ⟨.inl rfl, ?_⟩ | refine ⟨.inr rfl, ?_⟩)
          · repeat (first | refine BCase.yes rfl ?_ | refine BCase.no rfl ?_)
            refine ⟨(clampN (c 2 % 600)) - (j + 1), envY c l (lowI t.cols (t.resize (c 1 % 600)).cols ((t.resize (c 1 % 600)).resize (c 2 % 600)).cols) (j + 1 : Nat), [c3B c, tB t, tB (t.resize (c 1 % 600)), tB ((t.resize (c 1 % 600)).resize (c 2 % 600))], by omega, .same ?_ rfl, j + 1, rfl, by omega, rfl, rfl⟩
            refine ⟨.inl rfl, .inl rfl, .inl rfl, .inl rfl, .inl rfl, .inl rfl, .inr rfl, .inl rfl, .inl rfl, .inl rfl, .inl ?_, ?_⟩
            · exact congrArg (V.int .i64) (wrs j 1 (by omega))
            · repeat (first | exact trivial | refine ⟨.inl rfl, ?_⟩ | refine ⟨.inr rfl, ?_⟩)
    · have hjb : clampN (c 2 % 600) ≤ j := by have := of_decide_eq_false hj; rw [bcols] at this; omega
      have hself : Fn Tryd.prog 24 [t.v, .int .i64 t.cols] t.v := by have := resize_fn t ht.ok t.cols; rwa [resize_self t ht] at this
      refine DrawP.intro tysOk mixed false ?_
      refine ⟨_, (label_fn _).callT _ _, ?_⟩
      refine ⟨_, (label_fn t).callT _ _, ?_⟩
      refine BCase.yes (by simp [Tb.resize]) ?_
      repeat (first | refine BCase.yes rfl ?_ | refine BCase.no rfl ?_)
      refine ⟨_, (cols_fn _).callT _ _, ?_⟩
      repeat (first | refine BCase.yes rfl ?_ | refine BCase.no rfl ?_)
      rw [n2]
      refine BCase.yes ?_ ?_
      · rw [bcols, beq_iff_eq]
        have := hc 2
        unfold clampN
        split <;> omega
      repeat (first | refine BCase.yes rfl ?_ | refine BCase.no rfl ?_)
      refine ⟨_, (cols_fn t).callT _ _, ?_⟩
      repeat (first | refine BCase.yes rfl ?_ | refine BCase.no rfl ?_)
      refine ⟨_, hself.callT _ _, ?_⟩
      repeat (first | refine BCase.yes rfl ?_ | refine BCase.no rfl ?_)
      refine ⟨by kernel_rfl, ?_⟩
      show V.bool _ = _
      simp
end Go.Cx
