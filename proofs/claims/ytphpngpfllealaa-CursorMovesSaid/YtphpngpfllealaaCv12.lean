/- A calculus for calls of the program: canonical values and heaps, and what each operation, loop and call does to them; no condition on the program. -/
import Derived.Test.YtphpngpfllealaaCv11
namespace Go.Cv
open Go.RowKit

structure Tr where
  v : V
  wr : List (Nat × Blk)
  acc : List Nat
instance : Inhabited Tr := ⟨⟨.undef, [], []⟩⟩

abbrev Ds := List V × Heap
def Dapp (o : Oper) (t : Tr) (D : Ds) : Ds := (putE D.1 o.dst t.v, applyW D.2 t.wr)

def guardB (ops : Array Oper) (env : List V) (g : Option (Nat × Bool)) : Option Bool :=
  match g with
  | none => some true
  | some (j, want) =>
    match (ops[j]?).bind (·.dst) with
    | some d => (match env.getD d .undef with | .bool b => some (b == want) | .tup [] => some false | _ => none)
    | none => none

def LocOp (P : Program) (T : Nat → Option TI) (ops : Array Oper) (nid : Nat) (o : Oper) (t : Tr) (D : Ds) : Prop :=
  (guardB ops D.1 o.guard = some true ∧ opQ P T (evE D.1) D.2 nid (fun v' wr' acc' => v' = t.v ∧ wr' = t.wr ∧ acc' = t.acc) o.op) ∨ (guardB ops D.1 o.guard = some false ∧ t = ⟨.tup [], [], []⟩)

/-- Two operations that do not touch what is the other one's. -/
def indep (ops : Array Oper) (x : Oper) (s : Tr) (y : Oper) (t : Tr) : Bool :=
  x.apart ops y && (s.wr.all fun p => !t.acc.contains p.1) && (t.wr.all fun p => !s.acc.contains p.1)

theorem putE_getD {env : List V} {d : Option Tmp} {v : V} {t : Nat} (h : d ≠ some t) : (putE env d v).getD t .undef = env.getD t .undef := by
  cases d with
  | none => rfl
  | some d =>
    simp only [putE]
    rw [getD_set, if_neg (fun e => h (by rw [e.1]))]

theorem applyW_hget : ∀ (wr : List (Nat × Blk)) (h : Heap) (i : Nat), (∀ p ∈ wr, p.1 ≠ i) → hget (applyW h wr) i = hget h i
  | [], h, i, _ => rfl
  | p :: wr, h, i, hp => by
    show hget (applyW (h.set p.1 (some p.2)) wr) i = _
    rw [applyW_hget wr _ i (fun q hq => hp q (by simp [hq])), hget_set, if_neg (fun e => hp p (by simp) e.1)]

theorem applyW_length : ∀ (wr : List (Nat × Blk)) (h : Heap), (applyW h wr).length = h.length
  | [], h => rfl
  | p :: wr, h => by
    show (applyW (h.set p.1 (some p.2)) wr).length = _
    rw [applyW_length wr, List.length_set]

theorem applyW_some : ∀ (wr : List (Nat × Blk)) (h : Heap) (i : Nat), hget h i ≠ none → hget (applyW h wr) i ≠ none
  | [], h, i, hh => hh
  | p :: wr, h, i, hh => by
    show hget (applyW (h.set p.1 (some p.2)) wr) i ≠ none
    refine applyW_some wr _ i ?_
    rw [hget_set]
    split
    · simp
    · exact hh

theorem applyW_mem : ∀ (wr : List (Nat × Blk)) (h : Heap) (i : Nat) (k : Blk), (i, k) ∈ wr → i < h.length → hget (applyW h wr) i ≠ none
  | p :: wr, h, i, k, hm, hl => by
    show hget (applyW (h.set p.1 (some p.2)) wr) i ≠ none
    rcases List.mem_cons.1 hm with e | hm'
    · refine applyW_some wr _ i ?_
      subst e
      rw [hget_set, if_pos ⟨rfl, hl⟩]; simp
    · exact applyW_mem wr _ i k hm' (by simpa using hl)

theorem set_comm' (h : Heap) {i j : Nat} (x y : Option Blk) (hij : i ≠ j) : (h.set i x).set j y = (h.set j y).set i x := List.set_comm _ _ hij

theorem applyW_set (h : Heap) (i : Nat) (x : Option Blk) : ∀ (wr : List (Nat × Blk)), (∀ p ∈ wr, p.1 ≠ i) → applyW (h.set i x) wr = (applyW h wr).set i x := by
  intro wr
  induction wr generalizing h with
  | nil => intro _; rfl
  | cons p wr ih =>
    intro hp
    show applyW ((h.set i x).set p.1 (some p.2)) wr = (applyW (h.set p.1 (some p.2)) wr).set i x
    rw [set_comm' h x (some p.2) (fun e => hp p (by simp) e.symm), ih _ (fun q hq => hp q (by simp [hq]))]

theorem applyW_comm (h : Heap) (a b : List (Nat × Blk)) (hab : ∀ p ∈ a, ∀ q ∈ b, p.1 ≠ q.1) : applyW (applyW h a) b = applyW (applyW h b) a := by
  induction a generalizing h with
  | nil => rfl
  | cons p a ih =>
    show applyW (applyW (h.set p.1 (some p.2)) a) b = applyW ((applyW h b).set p.1 (some p.2)) a
    rw [ih _ (fun q hq => hab q (by simp [hq])), applyW_set h p.1 (some p.2) b (fun q hq => (hab p (by simp) q hq).symm)]

section
variable {P : Program} {T : Nat → Option TI} {ops : Array Oper}

theorem evE_same {env env' : List V} {o : Oper} (h : ∀ t ∈ o.looksAt ops, env'.getD t .undef = env.getD t .undef) : ∀ x ∈ o.op.operands, evE env x = evE env' x := fun x hx => by
  cases x with
  | tmp t =>
    have : t ∈ o.looksAt ops := by
      unfold Oper.looksAt
      refine List.mem_append_left _ ?_
      rw [List.mem_filterMap]
      exact ⟨.tmp t, by simpa using hx, rfl⟩
    exact (h t this).symm
  | const v => rfl
  | global g => rfl
  | func f => rfl

theorem guardB_same {env env' : List V} {o : Oper} (h : ∀ t ∈ o.looksAt ops, env'.getD t .undef = env.getD t .undef) : guardB ops env' o.guard = guardB ops env o.guard := by
  unfold guardB
  split
  · rfl
  · rename_i j want hg
    split
    · rename_i d hd
      have : d ∈ o.looksAt ops := by
        unfold Oper.looksAt
        refine List.mem_append_right _ ?_
        rw [hg]
        simp [hd]
      rw [h d this]
    · rfl

theorem LocOp.local {nid : Nat} {o : Oper} {t : Tr} {D D' : Ds} (h : LocOp P T ops nid o t D) (he : ∀ x ∈ o.looksAt ops, D'.1.getD x .undef = D.1.getD x .undef) (hh : ∀ i ∈ t.acc, hget D.2 i = hget D'.2 i) : LocOp P T ops nid o t D' := by
  rcases h with ⟨h1, h2⟩ | ⟨h1, h2⟩
  · left
    refine ⟨by rw [guardB_same he]; exact h1, ?_⟩
    rw [← opQ_ev o.op (evE_same he)]
    exact opQ_heap o.op hh h2
  · right
    exact ⟨by rw [guardB_same he]; exact h1, h2⟩

theorem LocOp.wr_acc {nid : Nat} {o : Oper} {t : Tr} {D : Ds} (h : LocOp P T ops nid o t D) : ∀ p ∈ t.wr, p.1 ∈ t.acc := by
  rcases h with ⟨_, h2⟩ | ⟨_, h2⟩
  · exact fun p hp => (opQ_wr o.op h2 p hp).1
  · subst h2; intro p hp; cases hp

/-- What is to be seen of two that are apart. -/
theorem indep_spec {x y : Oper} {s t : Tr} (h : indep ops x s y t = true) : (∀ d, x.dst = some d → d ∉ y.looksAt ops) ∧ (∀ d, x.dst = some d → y.dst ≠ some d) ∧ (∀ d, y.dst = some d → d ∉ x.looksAt ops) ∧ (∀ p ∈ s.wr, p.1 ∉ t.acc) ∧ (∀ p ∈ t.wr, p.1 ∉ s.acc) := by
  simp only [indep, Bool.and_eq_true, List.all_eq_true, Bool.not_eq_true', List.contains_eq_mem, decide_eq_false_iff_not] at h
  obtain ⟨⟨h1, h2⟩, h3⟩ := h
  obtain ⟨a1, a2, a3⟩ := Oper.apart_spec h1
  exact ⟨a1, a2, a3, h2, h3⟩

theorem loc_before {n1 n2 : Nat} {x y : Oper} {s t : Tr} (hi : indep ops x s y t = true) {D : Ds} (hx : LocOp P T ops n1 x s D) (hy : LocOp P T ops n2 y t (Dapp x s D)) :
    LocOp P T ops n2 y t D ∧ LocOp P T ops n1 x s (Dapp y t D) ∧ Dapp y t (Dapp x s D) = Dapp x s (Dapp y t D) := by
  obtain ⟨h1, h2, h3, h4, h5⟩ := indep_spec hi
  have l1 : LocOp P T ops n2 y t D := hy.local (fun z hz => by
    show D.1.getD z _ = (putE D.1 x.dst s.v).getD z _
    rw [putE_getD (fun e => h1 z e hz)]) (fun i hi' => by
    show hget (applyW D.2 s.wr) i = hget D.2 i
    rw [applyW_hget _ _ _ (fun p hp e => h4 p hp (e ▸ hi'))])
  refine ⟨l1, hx.local (fun z hz => by
    show (putE D.1 y.dst t.v).getD z _ = D.1.getD z _
    rw [putE_getD (fun e => h3 z e hz)]) (fun i hi' => by
    show hget D.2 i = hget (applyW D.2 t.wr) i
    rw [applyW_hget _ _ _ (fun p hp e => h5 p hp (e ▸ hi'))]), ?_⟩
  show (putE (putE D.1 x.dst s.v) y.dst t.v, applyW (applyW D.2 s.wr) t.wr) = (putE (putE D.1 y.dst t.v) x.dst s.v, applyW (applyW D.2 t.wr) s.wr)
  rw [applyW_comm D.2 s.wr t.wr (fun p hp q hq e => h4 p hp (e ▸ l1.wr_acc q hq))]
  congr 1
  cases hxd : x.dst with
  | none => rfl
  | some d =>
    cases hyd : y.dst with
    | none => rfl
    | some e =>
      have hne : d ≠ e := fun e' => h2 d hxd (by rw [hyd, e'])
      simp only [putE]
      exact List.set_comm _ _ hne

/-- Whatever order is picked. -/
def anyD (P : Program) (T : Nat → Option TI) (ops : Array Oper) (n0 : Nat) (tr : Nat → Tr) (Q : Ds → Prop) : Nat → Array Bool → Ds → Prop
  | 0, listed, D => Region.ready .any ops listed = [] ∧ Q D
  | fuel + 1, listed, D =>
    (Region.ready .any ops listed = [] → Q D) ∧
    ∀ i ∈ Region.ready .any ops listed, ∀ o, ops[i]? = some o → LocOp P T ops (n0 + i) o (tr i) D ∧ anyD P T ops n0 tr Q fuel (listed.setIfInBounds i true) (Dapp o (tr i) D)

/-- What is listed waits for nothing. -/
def dc (ops : Array Oper) (listed : Array Bool) : Prop := ∀ j o, ops[j]? = some o → listed.getD j false = true → ∀ e ∈ o.after, Region.binds .any e = true → listed.getD e.on false = true

/-- A list of those that each waits for, and those that these wait for. -/
def clOk (ops : Array Oper) (cl : Nat → List Nat) : Prop := ∀ j o, ops[j]? = some o → ∀ i ∈ cl j, ∃ e ∈ o.after, Region.binds .any e = true ∧ e.on < j ∧ (e.on = i ∨ i ∈ cl e.on)

theorem cl_listed {cl : Nat → List Nat} (hcl : clOk ops cl) {listed : Array Bool} (hdc : dc ops listed) {i : Nat} : ∀ (j : Nat) (o : Oper), ops[j]? = some o → (∀ e ∈ o.after, Region.binds .any e = true → listed.getD e.on false = true) → i ∈ cl j → listed.getD i false = true := by
  intro j
  induction j using Nat.strongRecOn with
  | _ j ih =>
    intro o ho hall hi
    obtain ⟨e, he, hb, hlt, h⟩ := hcl j o ho i hi
    have hl := hall e he hb
    rcases h with h | h
    · rw [← h]; exact hl
    · have hsz : j < ops.size := (Array.getElem?_eq_some_iff.1 ho).1
      have he' : ops[e.on]? = some ops[e.on] := Array.getElem?_eq_getElem (by omega)
      exact ih e.on hlt ops[e.on] he' (fun e2 h2 hb2 => hdc e.on _ he' hl e2 h2 hb2) h

theorem listed_tt {listed : Array Bool} {i : Nat} (h : listed.getD i true = false) : listed.getD i false = false := by
  rcases Nat.lt_or_ge i listed.size with h' | h'
  · simpa [h'] using h
  · simp [Array.getElem?_eq_none h'] at h

theorem anyD_first {n0 : Nat} {tr : Nat → Tr} {cl : Nat → List Nat} (hcl : clOk ops cl) {Q : Ds → Prop} {i : Nat} {oi : Oper} (hi : ops[i]? = some oi) : ∀ (fuel : Nat) (listed : Array Bool) (D : Ds),
    (∀ j oj, ops[j]? = some oj → j ≠ i → listed.getD j true = false → i ∉ cl j → indep ops oi (tr i) oj (tr j) = true) → dc ops listed → i ∈ Region.ready .any ops listed → LocOp P T ops (n0 + i) oi (tr i) D →
    anyD P T ops n0 tr Q fuel (listed.setIfInBounds i true) (Dapp oi (tr i) D) → anyD P T ops n0 tr Q (fuel + 1) listed D := by
  intro fuel
  induction fuel with
  | zero =>
    intro listed D _ _ hr hloc H
    refine ⟨fun h => (by rw [h] at hr; cases hr), fun j hj o ho => ?_⟩
    by_cases hji : j = i
    · subst hji
      rw [hi] at ho
      simp only [Option.some.injEq] at ho
      subst ho
      exact ⟨hloc, H⟩
    · have := ready_mono hj hji
      rw [H.1] at this
      cases this
  | succ fuel ih =>
    intro listed D hfree hdc hr hloc H
    refine ⟨fun h => (by rw [h] at hr; cases hr), fun j hj o ho => ?_⟩
    by_cases hji : j = i
    · subst hji
      rw [hi] at ho
      simp only [Option.some.injEq] at ho
      subst ho
      exact ⟨hloc, H⟩
    · obtain ⟨hjun, oj, hoj, hall⟩ := mem_ready.1 hj
      have hoj' : oj = o := by rw [ho] at hoj; simpa using hoj.symm
      subst hoj'
      have hnot : i ∉ cl j := fun hc => by
        have h1 := cl_listed hcl hdc j oj hoj hall hc
        have h2 := listed_tt (mem_ready.1 hr).1
        rw [h1] at h2; cases h2
      have hind := hfree j oj hoj hji hjun hnot
      obtain ⟨k1, k2⟩ := H.2 j (ready_mono hj hji) oj hoj
      obtain ⟨l1, l2, l3⟩ := loc_before hind hloc k1
      refine ⟨l1, ih (listed.setIfInBounds j true) (Dapp oj (tr j) D) (fun k ok hk hki hun hno => hfree k ok hk hki ?_ hno) (fun k ok hk hkl e he hb => ?_) (ready_mono hr (Ne.symm hji)) l2 ?_⟩
      · by_cases hjk : j = k
        · subst hjk; exact hjun
        · rwa [getD_set_ne true hjk] at hun
      · by_cases hjk : j = k
        · subst hjk
          rw [hoj] at hk
          simp only [Option.some.injEq] at hk
          subst hk
          exact getD_set_true (hall e he hb)
        · rw [getD_set_ne false hjk] at hkl
          exact getD_set_true (hdc k ok hk hkl e he hb)
      · rw [Array.setIfInBounds_comm _ _ hji, ← l3]
        exact k2

/-- In the order of the text. -/
def LexD (P : Program) (T : Nat → Option TI) (ops : Array Oper) (n0 : Nat) (tr : Nat → Tr) (Q : Ds → Prop) : List Oper → Nat → Ds → Prop
  | [], _, D => Q D
  | o :: l, k, D => LocOp P T ops (n0 + k) o (tr k) D ∧ LexD P T ops n0 tr Q l (k + 1) (Dapp o (tr k) D)

theorem anyD_lex {n0 : Nat} {tr : Nat → Tr} {cl : Nat → List Nat} (hcl : clOk ops cl) {Q : Ds → Prop} (hback : ∀ j o, ops[j]? = some o → ∀ e ∈ o.after, Region.binds .any e = true → e.on < j)
    (hind : ∀ i j oi oj, i < j → ops[i]? = some oi → ops[j]? = some oj → i ∉ cl j → indep ops oi (tr i) oj (tr j) = true) : ∀ (l : List Oper) (k : Nat) (listed : Array Bool) (D : Ds), (∀ m, l[m]? = ops[k + m]?) → (∀ m, m < ops.size → listed.getD m false = decide (m < k)) → listed.size = ops.size →
    LexD P T ops n0 tr Q l k D → anyD P T ops n0 tr Q l.length listed D
  | [], k, listed, D, hl, hlist, hsz, h => by
    have hk : ops.size ≤ k := by
      have := hl 0
      simp at this
      omega
    have hr : Region.ready .any ops listed = [] := by
      rw [List.eq_nil_iff_forall_not_mem]
      intro i hi
      obtain ⟨h1, o, ho, _⟩ := mem_ready.1 hi
      have hi' := (Array.getElem?_eq_some_iff.1 ho).1
      have h2 := hlist i hi'
      rw [listed_tt h1] at h2
      simp at h2
      omega
    exact ⟨hr, h⟩
  | o :: l, k, listed, D, hl, hlist, hsz, h => by
    obtain ⟨h1, h2⟩ := h
    have hk : ops[k]? = some o := by simpa using (hl 0).symm
    have hkl := (Array.getElem?_eq_some_iff.1 hk).1
    have htt : ∀ m, m < ops.size → listed.getD m true = listed.getD m false := fun m hm => by simp [hsz, hm]
    refine anyD_first hcl hk l.length listed D (fun j oj hoj hjk hun hno => ?_) (fun j oj hoj hjl e he hb => ?_) (mem_ready.2 ⟨?_, o, hk, fun e he hb => ?_⟩) h1 (anyD_lex hcl hback hind l (k + 1) _ _ (fun m => by have := hl (m + 1); simpa [Nat.add_assoc, Nat.add_comm 1 m] using this) (fun m hm => ?_) (by simpa using hsz) h2)
    · have hj := (Array.getElem?_eq_some_iff.1 hoj).1
      rw [htt j hj, hlist j hj] at hun
      simp at hun
      exact hind k j o oj (by omega) hk hoj hno
    · have hj := (Array.getElem?_eq_some_iff.1 hoj).1
      rw [hlist j hj] at hjl
      simp at hjl
      have := hback j oj hoj e he hb
      rw [hlist e.on (by omega)]
      simp; omega
    · rw [htt k hkl, hlist k hkl]; simp
    · have := hback k o hk e he hb
      rw [hlist e.on (by omega)]
      simpa using this
    · by_cases hmk : k = m
      · subst hmk
        have : (listed.setIfInBounds k true).getD k false = true := by simp [hsz, hkl]
        rw [this]; simp
      · rw [getD_set_ne false hmk, hlist m hm]
        have : (m < k) ↔ (m < k + 1) := by omega
        simp [this]
end
end Go.Cv
