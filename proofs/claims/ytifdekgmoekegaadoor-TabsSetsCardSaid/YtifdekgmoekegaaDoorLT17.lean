/- What functions of this seat compute, each for every argument of the shapes that are named; no condition beside the stated ones. -/
import Derived.Test.YtifdekgmoekegaaDoorLT13g
namespace Go.Cx
open Go.Proofs
set_option maxRecDepth 100000
set_option maxHeartbeats 10000000
def xB (x : Ac) : Option Blk := some (.cells 34 x.cs)
def hpS (x : Ac) (t : Tb) : Heap := [xB x, tB t, tB (t.put x.by x.cl), tB (t.clear x.by x.cl)]
def envS1 (n : Int) (l : List Ac) (x : Ac) (i : Int) : List V := .int .u16 n :: .psl 4 (actsV l) .any :: x.v :: .undef :: .undef :: .ptr 0 0 :: .bool false :: .ptr 1 0 :: .int .i64 i :: List.replicate 141 .undef
def envS2 (n : Int) (l : List Ac) (x : Ac) (t : Tb) (c : Int) : List V := .int .u16 n :: .psl 4 (actsV l) .any :: x.v :: .undef :: .undef :: .ptr 0 0 :: .bool false :: .ptr 1 0 :: .undef :: .psl 1 (colsV t.stops) .any :: .psl 1 (colsV x.cl) .any :: .ptr 2 0 :: .ptr 3 0 :: .int .i64 c :: List.replicate 136 .undef
def envS3 (n : Int) (l : List Ac) (x : Ac) (t : Tb) (c : Int) (b : Bool) (i : Int) : List V := .int .u16 n :: .psl 4 (actsV l) .any :: x.v :: .undef :: .undef :: .ptr 0 0 :: .bool false :: .ptr 1 0 :: .undef :: .psl 1 (colsV t.stops) .any :: .psl 1 (colsV x.cl) .any :: .ptr 2 0 :: .ptr 3 0 :: .int .i64 c :: .bool b :: .int .i64 i :: List.replicate 134 .undef
theorem max_lab {x y : Int} (hx : x = 0 ∨ x = 1) (hy : y = 0 ∨ y = 1) : (jn2 x y == if y > x then y else x) = true := by
  rcases hx with rfl | rfl <;> rcases hy with rfl | rfl <;> rfl
theorem same_tb {t u : Tb} (h : ∀ i, i < 8 → t.w i = u.w i) (hc : t.cols = u.cols) (hl : t.lab = u.lab) (hb : t.base = u.base) : ((t.w 0 : Int) == u.w 0 && ((t.w 1 : Int) == u.w 1 && ((t.w 2 : Int) == u.w 2 && ((t.w 3 : Int) == u.w 3 && ((t.w 4 : Int) == u.w 4 && ((t.w 5 : Int) == u.w 5 && ((t.w 6 : Int) == u.w 6 && ((t.w 7 : Int) == u.w 7 && true))))))) && (t.cols == u.cols && (t.lab == u.lab && (t.base == u.base && true)))) = true := by
  rw [h 0 (by omega), h 1 (by omega), h 2 (by omega), h 3 (by omega), h 4 (by omega), h 5 (by omega), h 6 (by omega), h 7 (by omega), hc, hl, hb]
  simp
theorem there_neg (t : Tb) {c : Int} (h : ¬ c ≥ 0) : t.there c = false := by
  unfold Tb.there
  have : decide (0 ≤ c) = false := by simp; omega
  rw [this]; rfl
theorem sets_sem (n : Int) (hn : 0 ≤ n ∧ n < 65536) (l : List Ac) (hl : ∀ a ∈ l, a.ok) (x : Ac) (hx : x.ok) :
    Sem Tryd.prog 5 [.int .u16 n, .psl 4 (actsV l) .any, x.v] [] fun v _ => v = .bool true := by
  have hal := actsV_len l
  have hcl : x.cl.length < 1000000 := by unfold Ac.cl; rw [List.length_take]; omega
  have hll := colsV_len x.cl
  have n1 := rem600 n hn
  refine Sem.of_body tysOk md0 Tryd.func5 rfl rfl ?_
  refine works.sem _ ?_
  refine BCase.no rfl ?_
  refine (new_fn _ 0).sem _ ?_
  refine LoopP.inv (md := md0) (fun k env h => ∃ (i : Nat) (t : Tb), k = l.length - i ∧ i ≤ l.length ∧ i ≤ 20 ∧ t.good ∧ t.base = 0 ∧ (t.lab = 0 ∨ t.lab = 1) ∧ env = envS1 n l x i ∧ h = [xB x, tB t]) l.length ⟨envS1 n l x 0, _, .same (by repeat (first | exact trivial | refine ⟨.inl rfl, ?_⟩ | refine ⟨.inr rfl, ?_⟩)) rfl, 0, _, rfl, Nat.zero_le _, Nat.zero_le _, resize_good (zero_good 0) _, rfl, .inl rfl, rfl, rfl⟩ ?_
  rintro k _ _ ⟨i, t, rfl, hil, hi20, ht, hb0, hl01, rfl, rfl⟩
  have hsl : t.stops.length < 1000000 := by have : t.stops.length ≤ 64 * 8 := stopsN_len t.w 8 0; omega
  refine ⟨fun h => ?_, fun h => ?_⟩
  · have hi' : i < l.length := by have := of_decide_eq_true h; omega
    repeat (first | refine BCase.yes rfl ?_ | refine BCase.no rfl ?_)
    refine ⟨fun h20 => ?_, fun h20 => ?_⟩
    · have h20' : i < 20 := by have := of_decide_eq_true h20; omega
      obtain ⟨a, ha⟩ : ∃ a, l[i]? = some a := ⟨_, List.getElem?_eq_getElem hi'⟩
      have hao := hl a (List.mem_of_getElem? ha)
      refine DrawP.intro tysOk mixed false ?_
      refine ⟨a.cs, ⟨by omega, actsV_get ha⟩, ?_⟩
      refine ⟨_, (does_fn a hao t ht.ok).callT _ _, ?_⟩
      refine ⟨by kernel_rfl, ?_⟩
      refine ⟨l.length - (i + 1), envS1 n l x (i + 1 : Nat), [xB x, tB (a.does t)], by omega, .same ?_ rfl, i + 1, a.does t, rfl, hi', h20', does_good a ht, (does_base a t).trans hb0, does_l01 a t hb0 hl01, rfl, rfl⟩
      refine ⟨.inl rfl, .inl rfl, .inl rfl, .inl rfl, .inl rfl, .inl rfl, .inl rfl, .inl rfl, .inl ?_, ?_⟩
      · exact congrArg (V.int .i64) (wrs i 1 (by omega))
      · repeat (first | exact trivial | refine ⟨.inl rfl, ?_⟩ | refine ⟨.inr rfl, ?_⟩)
    · clear h h20 hil hi20
      refine (list_fn t ht.ok).sem _ ?_
      refine (acols_fn x hx).sem _ ?_
      refine DrawP.intro tysOk mixed false ?_
      refine ⟨_, (by_fn x).callT _ _, ?_⟩
      refine ⟨_, (put_fn t ht.ok x.by x.cl hcl).callT _ _, ?_⟩
      refine ⟨_, (by_fn x).callT _ _, ?_⟩
      refine ⟨_, (clear_fn t ht.ok x.by x.cl hcl).callT _ _, ?_⟩
      refine ⟨by kernel_rfl, ?_⟩
      have htc : t.cols = (t.n : Nat) := by have := ht.ok.c0; unfold Tb.n; omega
      have htn : t.n ≤ 512 := by have := ht.ok.c1; omega
      refine LoopP.inv (md := md0) (fun k env h => ∃ (c : Nat), k = t.n + 2 - c ∧ c ≤ t.n + 2 ∧ env = envS2 n l x t ((c : Int) - 1) ∧ h = hpS x t) (t.n + 2) ⟨envS2 n l x t (-1), _, .same (by repeat (first | exact trivial | refine ⟨.inl rfl, ?_⟩ | refine ⟨.inr rfl, ?_⟩)) rfl, 0, rfl, Nat.zero_le _, rfl, rfl⟩ ?_
      rintro k _ _ ⟨c, rfl, hcl2, rfl, rfl⟩
      refine (cols_fn t).sem _ ?_
      refine ⟨fun hcc => ?_, fun hcc => ?_⟩
      · have hct : c ≤ t.n + 1 := by have := of_decide_eq_true hcc; omega
        refine LoopP.inv (md := md0) (fun k env h => ∃ (i : Nat), k = x.cl.length - i ∧ i ≤ x.cl.length ∧ env = envS3 n l x t ((c : Int) - 1) (decide ((c : Int) - 1 ∈ x.cl.take i)) i ∧ h = hpS x t) x.cl.length ⟨envS3 n l x t ((c : Int) - 1) (decide ((c : Int) - 1 ∈ x.cl.take 0)) 0, _, .same ?_ rfl, 0, rfl, Nat.zero_le _, rfl, rfl⟩ ?_
        · unfold envS3
          rw [show decide ((c : Int) - 1 ∈ x.cl.take 0) = false by simp]
          repeat (first | exact trivial | refine ⟨.inl rfl, ?_⟩ | refine ⟨.inr rfl, ?_⟩)
        rintro k _ _ ⟨i, rfl, hil2, rfl, rfl⟩
        refine ⟨fun hi3 => ?_, fun hi3 => ?_⟩
        · have hi' : i < x.cl.length := by have := of_decide_eq_true hi3; omega
          obtain ⟨y, hy⟩ : ∃ y, x.cl[i]? = some y := ⟨_, List.getElem?_eq_getElem hi'⟩
          have htake : x.cl.take (i + 1) = x.cl.take i ++ [y] := by rw [List.take_add_one, hy]; rfl
          refine ⟨fun hb => ?_, fun hb => ?_⟩
          · repeat (first | refine BCase.yes rfl ?_ | refine BCase.no rfl ?_)
            refine ⟨x.cl.length - (i + 1), envS3 n l x t ((c : Int) - 1) (decide ((c : Int) - 1 ∈ x.cl.take (i + 1))) (i + 1 : Nat), hpS x t, by omega, .same ?_ rfl, i + 1, rfl, hi', rfl, rfl⟩
            refine ⟨.inl rfl, .inl rfl, .inl rfl, .inl rfl, .inl rfl, .inl rfl, .inl rfl, .inl rfl, .inl rfl, .inl rfl, .inl rfl, .inl rfl, .inl rfl, .inl rfl, .inl ?_, .inl ?_, ?_⟩
            · exact congrArg V.bool (by rw [htake]; have := of_decide_eq_true hb; simp [this])
            · exact congrArg (V.int .i64) (wrS i 1 (by omega))
            · repeat (first | exact trivial | refine ⟨.inl rfl, ?_⟩ | refine ⟨.inr rfl, ?_⟩)
          · repeat (first | refine BCase.yes rfl ?_ | refine BCase.no rfl ?_)
            refine ⟨_, ⟨by omega, colsV_get hy⟩, ?_⟩
            repeat (first | refine BCase.yes rfl ?_ | refine BCase.no rfl ?_)
            refine ⟨x.cl.length - (i + 1), envS3 n l x t ((c : Int) - 1) (decide ((c : Int) - 1 ∈ x.cl.take (i + 1))) (i + 1 : Nat), hpS x t, by omega, .same ?_ rfl, i + 1, rfl, hi', rfl, rfl⟩
            refine ⟨.inl rfl, .inl rfl, .inl rfl, .inl rfl, .inl rfl, .inl rfl, .inl rfl, .inl rfl, .inl rfl, .inl rfl, .inl rfl, .inl rfl, .inl rfl, .inl rfl, .inl ?_, .inl ?_, ?_⟩
            · exact congrArg V.bool (by have hno := of_decide_eq_false hb; rw [htake, Bool.eq_iff_iff, decide_eq_true_iff, List.mem_append, List.mem_singleton, beq_iff_eq]; exact ⟨fun h => h.elim (fun h => absurd h hno) Eq.symm, fun h => .inr h.symm⟩)
            · exact congrArg (V.int .i64) (wrS i 1 (by omega))
            · repeat (first | exact trivial | refine ⟨.inl rfl, ?_⟩ | refine ⟨.inr rfl, ?_⟩)
        · have hi' : i = x.cl.length := by have := of_decide_eq_false hi3; omega
          subst hi'
          rw [List.take_length]
          refine ⟨fun hin => ?_, fun hin => ?_⟩
          · repeat (first | refine BCase.yes rfl ?_ | refine BCase.no rfl ?_)
            refine ⟨fun h0 => ?_, fun h0 => ?_⟩
            · repeat (first | refine BCase.yes rfl ?_ | refine BCase.no rfl ?_)
              refine (cols_fn t).sem _ ?_
              repeat (first | refine BCase.yes rfl ?_ | refine BCase.no rfl ?_)
              have hth : decide ((c : Int) - 1 < t.cols) = (decide ((c : Int) - 1 ∈ x.cl) && t.there ((c : Int) - 1)) := by rw [hin, Bool.true_and]; unfold Tb.there; rw [show decide (0 ≤ (c : Int) - 1) = true from h0, Bool.true_and]
              refine DrawP.intro tysOk mixed false ?_
              refine ⟨_, (has_fn _ (put_good ht _ _).ok _).callT _ _, ?_⟩
              refine ⟨_, (has_fn t ht.ok _).callT _ _, ?_⟩
              have hp := put_has t ht x.by x.cl ((c : Int) - 1)
              have hc := clear_has t ht x.by x.cl ((c : Int) - 1)
              rw [← hth] at hp hc
              refine ⟨fun hh => ?_, fun hh => ?_⟩
              · repeat (first | refine BCase.yes rfl ?_ | refine BCase.no rfl ?_)
                refine BCase.no (by rw [hp, hh]; rfl) ?_
                repeat (first | refine BCase.yes rfl ?_ | refine BCase.no rfl ?_)
                refine ⟨_, (has_fn _ (clear_good ht _ _).ok _).callT _ _, ?_⟩
                repeat (first | refine BCase.yes rfl ?_ | refine BCase.no rfl ?_)
                refine ⟨_, (has_fn t ht.ok _).callT _ _, ?_⟩
                repeat (first | refine BCase.yes rfl ?_ | refine BCase.no rfl ?_)
                refine BCase.yes hh ?_
                repeat (first | refine BCase.yes rfl ?_ | refine BCase.no rfl ?_)
                refine ⟨by kernel_rfl, ?_⟩
                refine BCase.no (by rw [hc, hh]; simp) ?_
                refine ⟨t.n + 2 - (c + 1), envS2 n l x t (((c + 1 : Nat) : Int) - 1), hpS x t, by omega, .same ?_ rfl, c + 1, rfl, by omega, rfl, rfl⟩
                refine ⟨.inl rfl, .inl rfl, .inl rfl, .inl rfl, .inl rfl, .inl rfl, .inl rfl, .inl rfl, .inl rfl, .inl rfl, .inl rfl, .inl rfl, .inl rfl, .inl ?_, ?_⟩
                · exact congrArg (V.int .i64) (by rw [wr64 (by omega) (by omega)]; omega)
                · repeat (first | exact trivial | refine ⟨.inl rfl, ?_⟩ | refine ⟨.inr rfl, ?_⟩)
              · repeat (first | refine BCase.yes rfl ?_ | refine BCase.no rfl ?_)
                refine BCase.no (by rw [hp, hh]; simp) ?_
                repeat (first | refine BCase.yes rfl ?_ | refine BCase.no rfl ?_)
                refine ⟨_, (has_fn _ (clear_good ht _ _).ok _).callT _ _, ?_⟩
                repeat (first | refine BCase.yes rfl ?_ | refine BCase.no rfl ?_)
                refine ⟨_, (has_fn t ht.ok _).callT _ _, ?_⟩
                repeat (first | refine BCase.yes rfl ?_ | refine BCase.no rfl ?_)
                refine BCase.no hh ?_
                repeat (first | refine BCase.yes rfl ?_ | refine BCase.no rfl ?_)
                refine ⟨by kernel_rfl, ?_⟩
                refine BCase.no (by rw [hc, hh]; simp) ?_
                refine ⟨t.n + 2 - (c + 1), envS2 n l x t (((c + 1 : Nat) : Int) - 1), hpS x t, by omega, .same ?_ rfl, c + 1, rfl, by omega, rfl, rfl⟩
                refine ⟨.inl rfl, .inl rfl, .inl rfl, .inl rfl, .inl rfl, .inl rfl, .inl rfl, .inl rfl, .inl rfl, .inl rfl, .inl rfl, .inl rfl, .inl rfl, .inl ?_, ?_⟩
                · exact congrArg (V.int .i64) (by rw [wr64 (by omega) (by omega)]; omega)
                · repeat (first | exact trivial | refine ⟨.inl rfl, ?_⟩ | refine ⟨.inr rfl, ?_⟩)
            · repeat (first | refine BCase.yes rfl ?_ | refine BCase.no rfl ?_)
              have hth : false = (decide ((c : Int) - 1 ∈ x.cl) && t.there ((c : Int) - 1)) := by rw [there_neg t (of_decide_eq_false h0), Bool.and_false]
              refine DrawP.intro tysOk mixed false ?_
              refine ⟨_, (has_fn _ (put_good ht _ _).ok _).callT _ _, ?_⟩
              refine ⟨_, (has_fn t ht.ok _).callT _ _, ?_⟩
              have hp := put_has t ht x.by x.cl ((c : Int) - 1)
              have hc := clear_has t ht x.by x.cl ((c : Int) - 1)
              rw [← hth] at hp hc
              refine ⟨fun hh => ?_, fun hh => ?_⟩
              · repeat (first | refine BCase.yes rfl ?_ | refine BCase.no rfl ?_)
                refine BCase.no (by rw [hp, hh]; rfl) ?_
                repeat (first | refine BCase.yes rfl ?_ | refine BCase.no rfl ?_)
                refine ⟨_, (has_fn _ (clear_good ht _ _).ok _).callT _ _, ?_⟩
                repeat (first | refine BCase.yes rfl ?_ | refine BCase.no rfl ?_)
                refine ⟨_, (has_fn t ht.ok _).callT _ _, ?_⟩
                repeat (first | refine BCase.yes rfl ?_ | refine BCase.no rfl ?_)
                refine BCase.yes hh ?_
                repeat (first | refine BCase.yes rfl ?_ | refine BCase.no rfl ?_)
                refine ⟨by kernel_rfl, ?_⟩
                refine BCase.no (by rw [hc, hh]; simp) ?_
                refine ⟨t.n + 2 - (c + 1), envS2 n l x t (((c + 1 : Nat) : Int) - 1), hpS x t, by omega, .same ?_ rfl, c + 1, rfl, by omega, rfl, rfl⟩
                refine ⟨.inl rfl, .inl rfl, .inl rfl, .inl rfl, .inl rfl, .inl rfl, .inl rfl, .inl rfl, .inl rfl, .inl rfl, .inl rfl, .inl rfl, .inl rfl, .inl ?_, ?_⟩
                · exact congrArg (V.int .i64) (by rw [wr64 (by omega) (by omega)]; omega)
                · repeat (first | exact trivial | refine ⟨.inl rfl, ?_⟩ | refine ⟨.inr rfl, ?_⟩)
              · repeat (first | refine BCase.yes rfl ?_ | refine BCase.no rfl ?_)
                refine BCase.no (by rw [hp, hh]; simp) ?_
                repeat (first | refine BCase.yes rfl ?_ | refine BCase.no rfl ?_)
                refine ⟨_, (has_fn _ (clear_good ht _ _).ok _).callT _ _, ?_⟩
                repeat (first | refine BCase.yes rfl ?_ | refine BCase.no rfl ?_)
                refine ⟨_, (has_fn t ht.ok _).callT _ _, ?_⟩
                repeat (first | refine BCase.yes rfl ?_ | refine BCase.no rfl ?_)
                refine BCase.no hh ?_
                repeat (first | refine BCase.yes rfl ?_ | refine BCase.no rfl ?_)
                refine ⟨by kernel_rfl, ?_⟩
                refine BCase.no (by rw [hc, hh]; simp) ?_
                refine ⟨t.n + 2 - (c + 1), envS2 n l x t (((c + 1 : Nat) : Int) - 1), hpS x t, by omega, .same ?_ rfl, c + 1, rfl, by omega, rfl, rfl⟩
                refine ⟨.inl rfl, .inl rfl, .inl rfl, .inl rfl, .inl rfl, .inl rfl, .inl rfl, .inl rfl, .inl rfl, .inl rfl, .inl rfl, .inl rfl, .inl rfl, .inl ?_, ?_⟩
                · exact congrArg (V.int .i64) (by rw [wr64 (by omega) (by omega)]; omega)
                · repeat (first | exact trivial | refine ⟨.inl rfl, ?_⟩ | refine ⟨.inr rfl, ?_⟩)
          · repeat (first | refine BCase.yes rfl ?_ | refine BCase.no rfl ?_)
            have hth : false = (decide ((c : Int) - 1 ∈ x.cl) && t.there ((c : Int) - 1)) := by rw [hin, Bool.false_and]
            refine DrawP.intro tysOk mixed false ?_
            refine ⟨_, (has_fn _ (put_good ht _ _).ok _).callT _ _, ?_⟩
            refine ⟨_, (has_fn t ht.ok _).callT _ _, ?_⟩
            have hp := put_has t ht x.by x.cl ((c : Int) - 1)
            have hc := clear_has t ht x.by x.cl ((c : Int) - 1)
            rw [← hth] at hp hc
            refine ⟨fun hh => ?_, fun hh => ?_⟩
            · repeat (first | refine BCase.yes rfl ?_ | refine BCase.no rfl ?_)
              refine BCase.no (by rw [hp, hh]; rfl) ?_
              repeat (first | refine BCase.yes rfl ?_ | refine BCase.no rfl ?_)
              refine ⟨_, (has_fn _ (clear_good ht _ _).ok _).callT _ _, ?_⟩
              repeat (first | refine BCase.yes rfl ?_ | refine BCase.no rfl ?_)
              refine ⟨_, (has_fn t ht.ok _).callT _ _, ?_⟩
              repeat (first | refine BCase.yes rfl ?_ | refine BCase.no rfl ?_)
              refine BCase.yes hh ?_
              repeat (first | refine BCase.yes rfl ?_ | refine BCase.no rfl ?_)
              refine ⟨by kernel_rfl, ?_⟩
              refine BCase.no (by rw [hc, hh]; simp) ?_
              refine ⟨t.n + 2 - (c + 1), envS2 n l x t (((c + 1 : Nat) : Int) - 1), hpS x t, by omega, .same ?_ rfl, c + 1, rfl, by omega, rfl, rfl⟩
              refine ⟨.inl rfl, .inl rfl, .inl rfl, .inl rfl, .inl rfl, .inl rfl, .inl rfl, .inl rfl, .inl rfl, .inl rfl, .inl rfl, .inl rfl, .inl rfl, .inl ?_, ?_⟩
              · exact congrArg (V.int .i64) (by rw [wr64 (by omega) (by omega)]; omega)
              · repeat (first | exact trivial | refine ⟨.inl rfl, ?_⟩ | refine ⟨.inr rfl, ?_⟩)
            · repeat (first | refine BCase.yes rfl ?_ | refine BCase.no rfl ?_)
              refine BCase.no (by rw [hp, hh]; simp) ?_
              repeat (first | refine BCase.yes rfl ?_ | refine BCase.no rfl ?_)
              refine ⟨_, (has_fn _ (clear_good ht _ _).ok _).callT _ _, ?_⟩
              repeat (first | refine BCase.yes rfl ?_ | refine BCase.no rfl ?_)
              refine ⟨_, (has_fn t ht.ok _).callT _ _, ?_⟩
              repeat (first | refine BCase.yes rfl ?_ | refine BCase.no rfl ?_)
              refine BCase.no hh ?_
              repeat (first | refine BCase.yes rfl ?_ | refine BCase.no rfl ?_)
              refine ⟨by kernel_rfl, ?_⟩
              refine BCase.no (by rw [hc, hh]; simp) ?_
              refine ⟨t.n + 2 - (c + 1), envS2 n l x t (((c + 1 : Nat) : Int) - 1), hpS x t, by omega, .same ?_ rfl, c + 1, rfl, by omega, rfl, rfl⟩
              refine ⟨.inl rfl, .inl rfl, .inl rfl, .inl rfl, .inl rfl, .inl rfl, .inl rfl, .inl rfl, .inl rfl, .inl rfl, .inl rfl, .inl rfl, .inl rfl, .inl ?_, ?_⟩
              · exact congrArg (V.int .i64) (by rw [wr64 (by omega) (by omega)]; omega)
              · repeat (first | exact trivial | refine ⟨.inl rfl, ?_⟩ | refine ⟨.inr rfl, ?_⟩)

      · clear hcc
        have hbm := by01 x
        refine DrawP.intro tysOk mixed false ?_
        refine ⟨_, (label_fn _).callT _ _, ?_⟩
        refine ⟨_, (label_fn t).callT _ _, ?_⟩
        refine ⟨_, (by_fn x).callT _ _, ?_⟩
        refine BCase.yes (max_lab hl01 hbm) ?_
        repeat (first | refine BCase.yes rfl ?_ | refine BCase.no rfl ?_)
        refine ⟨_, (label_fn _).callT _ _, ?_⟩
        repeat (first | refine BCase.yes rfl ?_ | refine BCase.no rfl ?_)
        refine ⟨_, (label_fn _).callT _ _, ?_⟩
        repeat (first | refine BCase.yes rfl ?_ | refine BCase.no rfl ?_)
        refine BCase.yes (by simp [Tb.put, Tb.clear]) ?_
        repeat (first | refine BCase.yes rfl ?_ | refine BCase.no rfl ?_)
        refine ⟨_, (clear_fn _ (put_good ht _ _).ok 0 x.cl hcl).callT _ _, ?_⟩
        repeat (first | refine BCase.yes rfl ?_ | refine BCase.no rfl ?_)
        refine BCase.yes (same_tb (put_clear t ht x.by x.cl).2 rfl (put_clear t ht x.by x.cl).1 rfl) ?_
        repeat (first | refine BCase.yes rfl ?_ | refine BCase.no rfl ?_)
        refine ⟨_, (list_fn t ht.ok).callT _ _, ?_⟩
        repeat (first | refine BCase.yes rfl ?_ | refine BCase.no rfl ?_)
        refine ⟨_, (ints_fn t.stops hsl).callT _ _, ?_⟩
        repeat (first | refine BCase.yes rfl ?_ | refine BCase.no rfl ?_)
        refine ⟨_, (decl_fn _).callT _ _, ?_⟩
        repeat (first | refine BCase.yes rfl ?_ | refine BCase.no rfl ?_)
        refine ⟨_, (label_fn _).callT _ _, ?_⟩
        repeat (first | refine BCase.yes rfl ?_ | refine BCase.no rfl ?_)
        refine BCase.yes (by simp [Tb.put, Tb.decl, hb0]) ?_
        repeat (first | refine BCase.yes rfl ?_ | refine BCase.no rfl ?_)
        refine ⟨_, (raise_fn t 1).callT _ _, ?_⟩
        repeat (first | refine BCase.yes rfl ?_ | refine BCase.no rfl ?_)
        refine ⟨_, (decl_fn _).callT _ _, ?_⟩
        repeat (first | refine BCase.yes rfl ?_ | refine BCase.no rfl ?_)
        refine ⟨_, (decl_fn _).callT _ _, ?_⟩
        repeat (first | refine BCase.yes rfl ?_ | refine BCase.no rfl ?_)
        refine ⟨by kernel_rfl, ?_⟩
        exact congrArg V.bool (same_tb (t := (t.raise 1).decl) (u := t.decl) (fun _ _ => rfl) rfl rfl rfl)
  · repeat (first | refine BCase.yes rfl ?_ | refine BCase.no rfl ?_)
    clear h hil hi20
    refine (list_fn t ht.ok).sem _ ?_
    refine (acols_fn x hx).sem _ ?_
    refine DrawP.intro tysOk mixed false ?_
    refine ⟨_, (by_fn x).callT _ _, ?_⟩
    refine ⟨_, (put_fn t ht.ok x.by x.cl hcl).callT _ _, ?_⟩
    refine ⟨_, (by_fn x).callT _ _, ?_⟩
    refine ⟨_, (clear_fn t ht.ok x.by x.cl hcl).callT _ _, ?_⟩
    refine ⟨by kernel_rfl, ?_⟩
    have htc : t.cols = (t.n : Nat) := by have := ht.ok.c0; unfold Tb.n; omega
    have htn : t.n ≤ 512 := by have := ht.ok.c1; omega
    refine LoopP.inv (md := md0) (fun k env h => ∃ (c : Nat), k = t.n + 2 - c ∧ c ≤ t.n + 2 ∧ env = envS2 n l x t ((c : Int) - 1) ∧ h = hpS x t) (t.n + 2) ⟨envS2 n l x t (-1), _, .same (by repeat (first | exact trivial | refine ⟨.inl rfl, ?_⟩ | refine ⟨.inr rfl, ?_⟩)) rfl, 0, rfl, Nat.zero_le _, rfl, rfl⟩ ?_
    rintro k _ _ ⟨c, rfl, hcl2, rfl, rfl⟩
    refine (cols_fn t).sem _ ?_
    refine ⟨fun hcc => ?_, fun hcc => ?_⟩
    · have hct : c ≤ t.n + 1 := by have := of_decide_eq_true hcc; omega
      refine LoopP.inv (md := md0) (fun k env h => ∃ (i : Nat), k = x.cl.length - i ∧ i ≤ x.cl.length ∧ env = envS3 n l x t ((c : Int) - 1) (decide ((c : Int) - 1 ∈ x.cl.take i)) i ∧ h = hpS x t) x.cl.length ⟨envS3 n l x t ((c : Int) - 1) (decide ((c : Int) - 1 ∈ x.cl.take 0)) 0, _, .same ?_ rfl, 0, rfl, Nat.zero_le _, rfl, rfl⟩ ?_
      · unfold envS3
        rw [show decide ((c : Int) - 1 ∈ x.cl.take 0) = false by simp]
        repeat (first | exact trivial | refine ⟨.inl rfl, ?_⟩ | refine ⟨.inr rfl, ?_⟩)
      rintro k _ _ ⟨i, rfl, hil2, rfl, rfl⟩
      refine ⟨fun hi3 => ?_, fun hi3 => ?_⟩
      · have hi' : i < x.cl.length := by have := of_decide_eq_true hi3; omega
        obtain ⟨y, hy⟩ : ∃ y, x.cl[i]? = some y := ⟨_, List.getElem?_eq_getElem hi'⟩
        have htake : x.cl.take (i + 1) = x.cl.take i ++ [y] := by rw [List.take_add_one, hy]; rfl
        refine ⟨fun hb => ?_, fun hb => ?_⟩
        · repeat (first | refine BCase.yes rfl ?_ | refine BCase.no rfl ?_)
          refine ⟨x.cl.length - (i + 1), envS3 n l x t ((c : Int) - 1) (decide ((c : Int) - 1 ∈ x.cl.take (i + 1))) (i + 1 : Nat), hpS x t, by omega, .same ?_ rfl, i + 1, rfl, hi', rfl, rfl⟩
          refine ⟨.inl rfl, .inl rfl, .inl rfl, .inl rfl, .inl rfl, .inl rfl, .inl rfl, .inl rfl, .inl rfl, .inl rfl, .inl rfl, .inl rfl, .inl rfl, .inl rfl, .inl ?_, .inl ?_, ?_⟩
          · exact congrArg V.bool (by rw [htake]; have := of_decide_eq_true hb; simp [this])
          · exact congrArg (V.int .i64) (wrS i 1 (by omega))
          · repeat (first | exact trivial | refine ⟨.inl rfl, ?_⟩ | refine ⟨.inr rfl, ?_⟩)
        · repeat (first | refine BCase.yes rfl ?_ | refine BCase.no rfl ?_)
          refine ⟨_, ⟨by omega, colsV_get hy⟩, ?_⟩
          repeat (first | refine BCase.yes rfl ?_ | refine BCase.no rfl ?_)
          refine ⟨x.cl.length - (i + 1), envS3 n l x t ((c : Int) - 1) (decide ((c : Int) - 1 ∈ x.cl.take (i + 1))) (i + 1 : Nat), hpS x t, by omega, .same ?_ rfl, i + 1, rfl, hi', rfl, rfl⟩
          refine ⟨.inl rfl, .inl rfl, .inl rfl, .inl rfl, .inl rfl, .inl rfl, .inl rfl, .inl rfl, .inl rfl, .inl rfl, .inl rfl, .inl rfl, .inl rfl, .inl rfl, .inl ?_, .inl ?_, ?_⟩
          · exact congrArg V.bool (by have hno := of_decide_eq_false hb; rw [htake, Bool.eq_iff_iff, decide_eq_true_iff, List.mem_append, List.mem_singleton, beq_iff_eq]; exact ⟨fun h => h.elim (fun h => absurd h hno) Eq.symm, fun h => .inr h.symm⟩)
          · exact congrArg (V.int .i64) (wrS i 1 (by omega))
          · repeat (first | exact trivial | refine ⟨.inl rfl, ?_⟩ | refine ⟨.inr rfl, ?_⟩)
      · have hi' : i = x.cl.length := by have := of_decide_eq_false hi3; omega
        subst hi'
        rw [List.take_length]
        refine ⟨fun hin => ?_, fun hin => ?_⟩
        · repeat (first | refine BCase.yes rfl ?_ | refine BCase.no rfl ?_)
          refine ⟨fun h0 => ?_, fun h0 => ?_⟩
          · repeat (first | refine BCase.yes rfl ?_ | refine BCase.no rfl ?_)
            refine (cols_fn t).sem _ ?_
            repeat (first | refine BCase.yes rfl ?_ | refine BCase.no rfl ?_)
            have hth : decide ((c : Int) - 1 < t.cols) = (decide ((c : Int) - 1 ∈ x.cl) && t.there ((c : Int) - 1)) := by rw [hin, Bool.true_and]; unfold Tb.there; rw [show decide (0 ≤ (c : Int) - 1) = true from h0, Bool.true_and]
            refine DrawP.intro tysOk mixed false ?_
            refine ⟨_, (has_fn _ (put_good ht _ _).ok _).callT _ _, ?_⟩
            refine ⟨_, (has_fn t ht.ok _).callT _ _, ?_⟩
            have hp := put_has t ht x.by x.cl ((c : Int) - 1)
            have hc := clear_has t ht x.by x.cl ((c : Int) - 1)
            rw [← hth] at hp hc
            refine ⟨fun hh => ?_, fun hh => ?_⟩
            · repeat (first | refine BCase.yes rfl ?_ | refine BCase.no rfl ?_)
              refine BCase.no (by rw [hp, hh]; rfl) ?_
              repeat (first | refine BCase.yes rfl ?_ | refine BCase.no rfl ?_)
              refine ⟨_, (has_fn _ (clear_good ht _ _).ok _).callT _ _, ?_⟩
              repeat (first | refine BCase.yes rfl ?_ | refine BCase.no rfl ?_)
              refine ⟨_, (has_fn t ht.ok _).callT _ _, ?_⟩
              repeat (first | refine BCase.yes rfl ?_ | refine BCase.no rfl ?_)
              refine BCase.yes hh ?_
              repeat (first | refine BCase.yes rfl ?_ | refine BCase.no rfl ?_)
              refine ⟨by kernel_rfl, ?_⟩
              refine BCase.no (by rw [hc, hh]; simp) ?_
              refine ⟨t.n + 2 - (c + 1), envS2 n l x t (((c + 1 : Nat) : Int) - 1), hpS x t, by omega, .same ?_ rfl, c + 1, rfl, by omega, rfl, rfl⟩
              refine ⟨.inl rfl, .inl rfl, .inl rfl, .inl rfl, .inl rfl, .inl rfl, .inl rfl, .inl rfl, .inl rfl, .inl rfl, .inl rfl, .inl rfl, .inl rfl, .inl ?_, ?_⟩
              · exact congrArg (V.int .i64) (by rw [wr64 (by omega) (by omega)]; omega)
              · repeat (first | exact trivial | refine ⟨.inl rfl, ?_⟩ | refine ⟨.inr rfl, ?_⟩)
            · repeat (first | refine BCase.yes rfl ?_ | refine BCase.no rfl ?_)
              refine BCase.no (by rw [hp, hh]; simp) ?_
              repeat (first | refine BCase.yes rfl ?_ | refine BCase.no rfl ?_)
              refine ⟨_, (has_fn _ (clear_good ht _ _).ok _).callT _ _, ?_⟩
              repeat (first | refine BCase.yes rfl ?_ | refine BCase.no rfl ?_)
              refine ⟨_, (has_fn t ht.ok _).callT _ _, ?_⟩
              repeat (first | refine BCase.yes rfl ?_ | refine BCase.no rfl ?_)
              refine BCase.no hh ?_
              repeat (first | refine BCase.yes rfl ?_ | refine BCase.no rfl ?_)
              refine ⟨by kernel_rfl, ?_⟩
              refine BCase.no (by rw [hc, hh]; simp) ?_
              refine ⟨t.n + 2 - (c + 1), envS2 n l x t (((c + 1 : Nat) : Int) - 1), hpS x t, by omega, .same ?_ rfl, c + 1, rfl, by omega, rfl, rfl⟩
              refine ⟨.inl rfl, .inl rfl, .inl rfl, .inl rfl, .inl rfl, .inl rfl, .inl rfl, .inl rfl, .inl rfl, .inl rfl, .inl rfl, .inl rfl, .inl rfl, .inl ?_, ?_⟩
              · exact congrArg (V.int .i64) (by rw [wr64 (by omega) (by omega)]; omega)
              · repeat (first | exact trivial | refine ⟨.inl rfl, ?_⟩ | refine ⟨.inr rfl, ?_⟩)
          · repeat (first | refine BCase.yes rfl ?_ | refine BCase.no rfl ?_)
            have hth : false = (decide ((c : Int) - 1 ∈ x.cl) && t.there ((c : Int) - 1)) := by rw [there_neg t (of_decide_eq_false h0), Bool.and_false]
            refine DrawP.intro tysOk mixed false ?_
            refine ⟨_, (has_fn _ (put_good ht _ _).ok _).callT _ _, ?_⟩
            refine ⟨_, (has_fn t ht.ok _).callT _ _, ?_⟩
            have hp := put_has t ht x.by x.cl ((c : Int) - 1)
            have hc := clear_has t ht x.by x.cl ((c : Int) - 1)
            rw [← hth] at hp hc
            refine ⟨fun hh => ?_, fun hh => ?_⟩
            · repeat (first | refine BCase.yes rfl ?_ | refine BCase.no rfl ?_)
              refine BCase.no (by rw [hp, hh]; rfl) ?_
              repeat (first | refine BCase.yes rfl ?_ | refine BCase.no rfl ?_)
              refine ⟨_, (has_fn _ (clear_good ht _ _).ok _).callT _ _, ?_⟩
              repeat (first | refine BCase.yes rfl ?_ | refine BCase.no rfl ?_)
              refine ⟨_, (has_fn t ht.ok _).callT _ _, ?_⟩
              repeat (first | refine BCase.yes rfl ?_ | refine BCase.no rfl ?_)
              refine BCase.yes hh ?_
              repeat (first | refine BCase.yes rfl ?_ | refine BCase.no rfl ?_)
              refine ⟨by kernel_rfl, ?_⟩
              refine BCase.no (by rw [hc, hh]; simp) ?_
              refine ⟨t.n + 2 - (c + 1), envS2 n l x t (((c + 1 : Nat) : Int) - 1), hpS x t, by omega, .same ?_ rfl, c + 1, rfl, by omega, rfl, rfl⟩
              refine ⟨.inl rfl, .inl rfl, .inl rfl, .inl rfl, .inl rfl, .inl rfl, .inl rfl, .inl rfl, .inl rfl, .inl rfl, .inl rfl, .inl rfl, .inl rfl, .inl ?_, ?_⟩
              · exact congrArg (V.int .i64) (by rw [wr64 (by omega) (by omega)]; omega)
              · repeat (first | exact trivial | refine ⟨.inl rfl, ?_⟩ | refine ⟨.inr rfl, ?_⟩)
            · repeat (first | refine BCase.yes rfl ?_ | refine BCase.no rfl ?_)
              refine BCase.no (by rw [hp, hh]; simp) ?_
              repeat (first | refine BCase.yes rfl ?_ | refine BCase.no rfl ?_)
              refine ⟨_, (has_fn _ (clear_good ht _ _).ok _).callT _ _, ?_⟩
              repeat (first | refine BCase.yes rfl ?_ | refine BCase.no rfl ?_)
              refine ⟨_, (has_fn t ht.ok _).callT _ _, ?_⟩
              repeat (first | refine BCase.yes rfl ?_ | refine BCase.no rfl ?_)
              refine BCase.no hh ?_
              repeat (first | refine BCase.yes rfl ?_ | refine BCase.no rfl ?_)
              refine ⟨by kernel_rfl, ?_⟩
              refine BCase.no (by rw [hc, hh]; simp) ?_
              refine ⟨t.n + 2 - (c + 1), envS2 n l x t (((c + 1 : Nat) : Int) - 1), hpS x t, by omega, .same ?_ rfl, c + 1, rfl, by omega, rfl, rfl⟩
              refine ⟨.inl rfl, .inl rfl, .inl rfl, .inl rfl, .inl rfl, .inl rfl, .inl rfl, .inl rfl, .inl rfl, .inl rfl, .inl rfl, .inl rfl, .inl rfl, .inl ?_, ?_⟩
              · exact congrArg (V.int .i64) (by rw [wr64 (by omega) (by omega)]; omega)
              · repeat (first | exact trivial | refine ⟨.inl rfl, ?_⟩ | refine ⟨.inr rfl, ?_⟩)
        · repeat (first | refine BCase.yes rfl ?_ | refine BCase.no rfl ?_)
          have hth : false = (decide ((c : Int) - 1 ∈ x.cl) && t.there ((c : Int) - 1)) := by rw [hin, Bool.false_and]
          refine DrawP.intro tysOk mixed false ?_
          refine ⟨_, (has_fn _ (put_good ht _ _).ok _).callT _ _, ?_⟩
          refine ⟨_, (has_fn t ht.ok _).callT _ _, ?_⟩
          have hp := put_has t ht x.by x.cl ((c : Int) - 1)
          have hc := clear_has t ht x.by x.cl ((c : Int) - 1)
          rw [← hth] at hp hc
          refine ⟨fun hh => ?_, fun hh => ?_⟩
          · repeat (first | refine BCase.yes rfl ?_ | refine BCase.no rfl ?_)
            refine BCase.no (by rw [hp, hh]; rfl) ?_
            repeat (first | refine BCase.yes rfl ?_ | refine BCase.no rfl ?_)
            refine ⟨_, (has_fn _ (clear_good ht _ _).ok _).callT _ _, ?_⟩
            repeat (first | refine BCase.yes rfl ?_ | refine BCase.no rfl ?_)
            refine ⟨_, (has_fn t ht.ok _).callT _ _, ?_⟩
            repeat (first | refine BCase.yes rfl ?_ | refine BCase.no rfl ?_)
            refine BCase.yes hh ?_
            repeat (first | refine BCase.yes rfl ?_ | refine BCase.no rfl ?_)
            refine ⟨by kernel_rfl, ?_⟩
            refine BCase.no (by rw [hc, hh]; simp) ?_
            refine ⟨t.n + 2 - (c + 1), envS2 n l x t (((c + 1 : Nat) : Int) - 1), hpS x t, by omega, .same ?_ rfl, c + 1, rfl, by omega, rfl, rfl⟩
            refine ⟨.inl rfl, .inl rfl, .inl rfl, .inl rfl, .inl rfl, .inl rfl, .inl rfl, .inl rfl, .inl rfl, .inl rfl, .inl rfl, .inl rfl, .inl rfl, .inl ?_, ?_⟩
            · exact congrArg (V.int .i64) (by rw [wr64 (by omega) (by omega)]; omega)
            · repeat (first | exact trivial | refine ⟨.inl rfl, ?_⟩ | refine ⟨.inr rfl, ?_⟩)
          · repeat (first | refine BCase.yes rfl ?_ | refine BCase.no rfl ?_)
            refine BCase.no (by rw [hp, hh]; simp) ?_
            repeat (first | refine BCase.yes rfl ?_ | refine BCase.no rfl ?_)
            refine ⟨_, (has_fn _ (clear_good ht _ _).ok _).callT _ _, ?_⟩
            repeat (first | refine BCase.yes rfl ?_ | refine BCase.no rfl ?_)
            refine ⟨_, (has_fn t ht.ok _).callT _ _, ?_⟩
            repeat (first | refine BCase.yes rfl ?_ | refine BCase.no rfl ?_)
            refine BCase.no hh ?_
            repeat (first | refine BCase.yes rfl ?_ | refine BCase.no rfl ?_)
            refine ⟨by kernel_rfl, ?_⟩
            refine BCase.no (by rw [hc, hh]; simp) ?_
            refine ⟨t.n + 2 - (c + 1), envS2 n l x t (((c + 1 : Nat) : Int) - 1), hpS x t, by omega, .same ?_ rfl, c + 1, rfl, by omega, rfl, rfl⟩
            refine ⟨.inl rfl, .inl rfl, .inl rfl, .inl rfl, .inl rfl, .inl rfl, .inl rfl, .inl rfl, .inl rfl, .inl rfl, .inl rfl, .inl rfl, .inl rfl, .inl ?_, ?_⟩
            · exact congrArg (V.int .i64) (by rw [wr64 (by omega) (by omega)]; omega)
            · repeat (first | exact trivial | refine ⟨.inl rfl, ?_⟩ | refine ⟨.inr rfl, ?_⟩)

    · clear hcc
      have hbm := by01 x
      refine DrawP.intro tysOk mixed false ?_
      refine ⟨_, (label_fn _).callT _ _, ?_⟩
      refine ⟨_, (label_fn t).callT _ _, ?_⟩
      refine ⟨_, (by_fn x).callT _ _, ?_⟩
      refine BCase.yes (max_lab hl01 hbm) ?_
      repeat (first | refine BCase.yes rfl ?_ | refine BCase.no rfl ?_)
      refine ⟨_, (label_fn _).callT _ _, ?_⟩
      repeat (first | refine BCase.yes rfl ?_ | refine BCase.no rfl ?_)
      refine ⟨_, (label_fn _).callT _ _, ?_⟩
      repeat (first | refine BCase.yes rfl ?_ | refine BCase.no rfl ?_)
      refine BCase.yes (by simp [Tb.put, Tb.clear]) ?_
      repeat (first | refine BCase.yes rfl ?_ | refine BCase.no rfl ?_)
      refine ⟨_, (clear_fn _ (put_good ht _ _).ok 0 x.cl hcl).callT _ _, ?_⟩
      repeat (first | refine BCase.yes rfl ?_ | refine BCase.no rfl ?_)
      refine BCase.yes (same_tb (put_clear t ht x.by x.cl).2 rfl (put_clear t ht x.by x.cl).1 rfl) ?_
      repeat (first | refine BCase.yes rfl ?_ | refine BCase.no rfl ?_)
      refine ⟨_, (list_fn t ht.ok).callT _ _, ?_⟩
      repeat (first | refine BCase.yes rfl ?_ | refine BCase.no rfl ?_)
      refine ⟨_, (ints_fn t.stops hsl).callT _ _, ?_⟩
      repeat (first | refine BCase.yes rfl ?_ | refine BCase.no rfl ?_)
      refine ⟨_, (decl_fn _).callT _ _, ?_⟩
      repeat (first | refine BCase.yes rfl ?_ | refine BCase.no rfl ?_)
      refine ⟨_, (label_fn _).callT _ _, ?_⟩
      repeat (first | refine BCase.yes rfl ?_ | refine BCase.no rfl ?_)
      refine BCase.yes (by simp [Tb.put, Tb.decl, hb0]) ?_
      repeat (first | refine BCase.yes rfl ?_ | refine BCase.no rfl ?_)
      refine ⟨_, (raise_fn t 1).callT _ _, ?_⟩
      repeat (first | refine BCase.yes rfl ?_ | refine BCase.no rfl ?_)
      refine ⟨_, (decl_fn _).callT _ _, ?_⟩
      repeat (first | refine BCase.yes rfl ?_ | refine BCase.no rfl ?_)
      refine ⟨_, (decl_fn _).callT _ _, ?_⟩
      repeat (first | refine BCase.yes rfl ?_ | refine BCase.no rfl ?_)
      refine ⟨by kernel_rfl, ?_⟩
      exact congrArg V.bool (same_tb (t := (t.raise 1).decl) (u := t.decl) (fun _ _ => rfl) rfl rfl rfl)

end Go.Cx
