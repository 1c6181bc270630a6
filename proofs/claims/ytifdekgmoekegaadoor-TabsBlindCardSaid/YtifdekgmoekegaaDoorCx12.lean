/- A calculus for calls of the program: canonical values and heaps, and what each operation, loop and call does to them; no condition on the program. -/
import Derived.Test.YtifdekgmoekegaaDoorCx10
namespace Go.Cx
open Go.RowKit

structure Tr where
  v : V
  wr : List (Nat × Blk)
  acc : List Nat
  nw : Nat
  /-- An entry of a map, in whatever order it comes: the map, the type of its keys, key and value. -/
  ins : Option (Nat × Nat × V × V)
instance : Inhabited Tr := ⟨⟨.undef, [], [], 0, none⟩⟩

/-- What is written. -/
def wrT (h : Heap) (t : Tr) : List (Nat × Blk) :=
  match t.ins with
  | none => t.wr
  | some (id, _, k, v) => (match hget h id with | some (.mapc es c) => [(id, .mapc (insK k v es) (c + 1))] | _ => [])
def insIds (t : Tr) : List Nat := match t.ins with | none => [] | some (id, _) => [id]
def Tr.accs (t : Tr) : List Nat := insIds t ++ t.acc
def Tr.wrs (t : Tr) : List Nat := insIds t ++ t.wr.map fun p => p.1

abbrev Ds := List V × Heap
def Dapp (o : Oper) (t : Tr) (D : Ds) : Ds := (putE D.1 o.dst t.v, applyW D.2 (wrT D.2 t))

def guardB (ops : Array Oper) (env : List V) (g : Option (Nat × Bool)) : Option Bool :=
  match g with
  | none => some true
  | some (j, want) =>
    match (ops[j]?).bind (·.dst) with
    | some d => (match env.getD d .undef with | .bool b => some (b == want) | .tup [] => some false | _ => none)
    | none => none

def CallR (P : Program) (g : FuncId) : RunR := fun w cargs Q => CallTo P g cargs w Q

/-- A round, as something that is run: its first argument is the loop. -/
def RoundR (P : Program) : RunR := fun w cargs Q => ∃ b rest, cargs = #[.func (.yield b) #[] #[]] ++ rest ∧ ∃ f tmps assign body, (Instr.yield b rest).run P w = .ok (.round b f tmps assign body) w ∧ RoundIn Fence.wide 0 P b f tmps assign body w Q

/-- A call's outcome: it hangs on some blocks alone. -/
def CallT (R : RunR) (args : List V) (h : Heap) (nid : Nat) (t : Tr) : Prop :=
  t.ins = none ∧ ∃ hs : Heap, hs.length = nid ∧ (∀ i k, hget hs i = some k → i ∈ t.acc ∧ hget h i = some k) ∧ (∀ p ∈ t.wr, p.1 ∈ t.acc) ∧ FrOk args hs t.v t.wr t.nw ∧ FrP R args hs fun v' h' => v' = t.v ∧ h' = applyW (hs ++ List.replicate t.nw none) t.wr

theorem CallT.local {R : RunR} {args : List V} {h h' : Heap} {nid : Nat} {t : Tr} (hc : CallT R args h nid t) (hh : ∀ i ∈ t.acc, hget h i = hget h' i) : CallT R args h' nid t := by
  obtain ⟨h0, hs, h1, h2, h3, h4, h5⟩ := hc
  exact ⟨h0, hs, h1, fun i k hk => ⟨(h2 i k hk).1, (hh i (h2 i k hk).1).symm.trans (h2 i k hk).2⟩, h3, h4, h5⟩

def outOf (t : Tr) : Out := ⟨true, t.v, t.wr, t.acc, t.nw⟩

/-- An entry that is new to the map. -/
def InsT (T : Nat → Option TI) (ev : Operand → V) (h : Heap) (mt : Nat) (m k v : Operand) (t : Tr) : Prop :=
  ∃ (ti : TI) (kt e id : Nat) (es : List (V × V)) (clock : Nat), T mt = some ti ∧ ev m = .map id ∧ ti.k = .map kt e ∧ keyOk T kt (ev k) = true ∧ hget h id = some (.mapc es clock) ∧ hitsV T kt (ev k) es = some [] ∧ t = ⟨.undef, [], [], 0, some (id, kt, ev k, ev v)⟩

def OpT (P : Program) (T : Nat → Option TI) (md : Bool) (ev : Operand → V) (h : Heap) (nid : Nat) (op : Op) (t : Tr) : Prop :=
  match op with
  | .call c =>
    (match c.callee with
    | .value f => (match ev f with
      | .fn (.func g) first caps => CallT (CallR P g) (first ++ (c.args.toList.map ev) ++ caps) h nid t
      | .yld id => CallT (RoundR P) (.yld id :: c.args.toList.map ev) h nid t
      | _ => False)
    | .invoke _ _ => False
    | .builtin _ => t.ins = none ∧ opF P T md ev (hget h) nid (.call c) = some (outOf t))
  | .insert mt m k v => InsT T ev h mt m k v t
  | op => t.ins = none ∧ opF P T md ev (hget h) nid op = some (outOf t)

theorem OpT.local {P : Program} {T : Nat → Option TI} {md : Bool} {ev : Operand → V} {h h' : Heap} {nid : Nat} {op : Op} {t : Tr} (ho : OpT P T md ev h nid op t) (hh : ∀ i ∈ t.accs, hget h i = hget h' i) : OpT P T md ev h' nid op t := by
  have hh' : ∀ i ∈ t.acc, hget h i = hget h' i := fun i hi => hh i (by simp [Tr.accs, hi])
  cases op
  case call c =>
    simp only [OpT] at ho ⊢
    split at ho
    · split at ho
      · exact ho.local hh'
      · exact ho.local hh'
      · exact ho.elim
    · exact ho.elim
    · exact ⟨ho.1, opF_local ho.2 hh'⟩
  case insert mt m k v =>
    simp only [OpT] at ho ⊢
    obtain ⟨ti, kt, e, id, es, clock, h1, h2, h3, h4, h5, h6, rfl⟩ := ho
    exact ⟨ti, kt, e, id, es, clock, h1, h2, h3, h4, (hh id (by simp [Tr.accs, insIds])).symm.trans h5, h6, rfl⟩
  all_goals (simp only [OpT] at ho ⊢; exact ⟨ho.1, opF_local ho.2 hh'⟩)

theorem OpT.ev {P : Program} {T : Nat → Option TI} {md : Bool} {ev ev' : Operand → V} {h : Heap} {nid : Nat} {op : Op} {t : Tr} (hev : ∀ x ∈ op.operands, ev x = ev' x) (ho : OpT P T md ev h nid op t) : OpT P T md ev' h nid op t := by
  cases op
  case call c =>
    obtain ⟨callee, args, ts⟩ := c
    simp only [Op.operands] at hev
    have ha : args.toList.map ev = args.toList.map ev' := List.map_congr_left (fun x hx => hev x (by simp [Call.operands]; right; simpa using hx))
    cases callee with
    | value f =>
      have hf := hev f (by simp [Call.operands])
      simp only [OpT, hf, ha] at ho ⊢
      exact ho
    | invoke a b => exact ho
    | builtin b =>
      simp only [OpT] at ho ⊢
      refine ⟨ho.1, ?_⟩
      rw [← ho.2]
      exact (opF_ev _ (by simpa [Op.operands] using hev)).symm
  case insert mt m k v =>
    simp only [OpT, InsT] at ho ⊢
    rw [← hev m (by simp [Op.operands]), ← hev k (by simp [Op.operands]), ← hev v (by simp [Op.operands])]
    exact ho
  all_goals (simp only [OpT] at ho ⊢; refine ⟨ho.1, ?_⟩; rw [← ho.2]; exact (opF_ev _ hev).symm)

theorem OpT.wr {P : Program} {T : Nat → Option TI} {md : Bool} {ev : Operand → V} {h : Heap} {nid : Nat} {op : Op} {t : Tr} (ho : OpT P T md ev h nid op t) : ∀ p ∈ t.wr, p.1 ∈ t.acc := by
  have plain : ∀ {op : Op}, opF P T md ev (hget h) nid op = some (outOf t) → ∀ p ∈ t.wr, p.1 ∈ t.acc := fun hf p hp => (opF_wr hf p hp).1
  cases op
  case call c =>
    simp only [OpT] at ho
    split at ho
    · split at ho
      · obtain ⟨_, hs, _, _, h3, _⟩ := ho; exact h3
      · obtain ⟨_, hs, _, _, h3, _⟩ := ho; exact h3
      · exact ho.elim
    · exact ho.elim
    · exact plain ho.2
  case insert mt m k v =>
    simp only [OpT] at ho
    obtain ⟨ti, kt, e, id, es, clock, h1, h2, h3, h4, h5, h6, rfl⟩ := ho
    intro p hp
    cases hp
  all_goals (simp only [OpT] at ho; exact plain ho.2)

def LocOp (P : Program) (T : Nat → Option TI) (md : Bool) (ops : Array Oper) (nid : Nat) (o : Oper) (t : Tr) (D : Ds) : Prop :=
  (guardB ops D.1 o.guard = some true ∧ OpT P T md (evE D.1) D.2 nid o.op t) ∨ (guardB ops D.1 o.guard = some false ∧ t = ⟨.tup [], [], [], 0, none⟩)

/-- Two entries of one map, of other keys. -/
def insB (T : Nat → Option TI) (s t : Tr) : Bool :=
  match s.ins, t.ins with
  | some (i, kt, k, _), some (j, kt', k', _) =>
    Nat.beq i j && Nat.beq kt kt' && s.wr.isEmpty && t.wr.isEmpty && s.acc.isEmpty && t.acc.isEmpty &&
    (match eqV T 12 kt k k', eqV T 12 kt k' k with | some false, some false => ltL (encV k) (encV k') || ltL (encV k') (encV k) | _, _ => false)
  | _, _ => false
def disjB (a b : List Nat) : Bool := a.all fun p => !b.contains p

/-- Two operations that do not touch what is the other one's. -/
def indep (T : Nat → Option TI) (ops : Array Oper) (x : Oper) (s : Tr) (y : Oper) (t : Tr) : Bool :=
  x.apart ops y && ((disjB s.wrs t.accs && disjB t.wrs s.accs) || insB T s t)

theorem putE_getD {env : List V} {d : Option Tmp} {v : V} {t : Nat} (h : d ≠ some t) : (putE env d v).getD t .undef = env.getD t .undef := by
  cases d with
  | none => rfl
  | some d =>
    simp only [putE]
    rw [getD_set, if_neg (fun e => h (by rw [e.1]))]

theorem set_comm' (h : Heap) {i j : Nat} (x y : Option Blk) (hij : i ≠ j) : (h.set i x).set j y = (h.set j y).set i x := List.set_comm _ _ hij

theorem applyW_set (h : Heap) (i : Nat) (x : Option Blk) : ∀ (wr : List (Nat × Blk)), (∀ p ∈ wr, p.1 ≠ i) → applyW (h.set i x) wr = (applyW h wr).set i x := by
  intro wr
  induction wr generalizing h with
  | nil => intro _; rfl
  | cons p wr ih =>
    intro hp
    show applyW ((h.set i x).set p.1 (some p.2)) wr = (applyW (h.set p.1 (some p.2)) wr).set i x
    rw [set_comm' h x (some p.2) (fun e => hp p (by simp) e.symm), ih _ (fun q hq => hp q (by simp [hq]))]

theorem applyW_comm (h : Heap) (a b : List (Nat × Blk)) (hab : ∀ p ∈ a, ∀ q ∈ b, p.1 ≠ q.1) : applyW (applyW h a) b = applyW (applyW h b) a := by
  induction a generalizing h with
  | nil => rfl
  | cons p a ih =>
    show applyW (applyW (h.set p.1 (some p.2)) a) b = applyW ((applyW h b).set p.1 (some p.2)) a
    rw [ih _ (fun q hq => hab q (by simp [hq])), applyW_set h p.1 (some p.2) b (fun q hq => (hab p (by simp) q hq).symm)]

section
variable {P : Program} {T : Nat → Option TI} {md : Bool} {ops : Array Oper}

theorem evE_same {env env' : List V} {o : Oper} (h : ∀ t ∈ o.looksAt ops, env'.getD t .undef = env.getD t .undef) : ∀ x ∈ o.op.operands, evE env x = evE env' x := fun x hx => by
  cases x with
  | tmp t =>
    have : t ∈ o.looksAt ops := by
      unfold Oper.looksAt
      refine List.mem_append_left _ ?_
      rw [List.mem_filterMap]
      exact ⟨.tmp t, by simpa using hx, rfl⟩
    exact (h t this).symm
  | const v => rfl
  | global g => rfl
  | func f => rfl

theorem guardB_same {env env' : List V} {o : Oper} (h : ∀ t ∈ o.looksAt ops, env'.getD t .undef = env.getD t .undef) : guardB ops env' o.guard = guardB ops env o.guard := by
  unfold guardB
  split
  · rfl
  · rename_i j want hg
    split
    · rename_i d hd
      have : d ∈ o.looksAt ops := by
        unfold Oper.looksAt
        refine List.mem_append_right _ ?_
        rw [hg]
        simp [hd]
      rw [h d this]
    · rfl

theorem LocOp.local {nid : Nat} {o : Oper} {t : Tr} {D D' : Ds} (h : LocOp P T md ops nid o t D) (he : ∀ x ∈ o.looksAt ops, D'.1.getD x .undef = D.1.getD x .undef) (hh : ∀ i ∈ t.accs, hget D.2 i = hget D'.2 i) : LocOp P T md ops nid o t D' := by
  rcases h with ⟨h1, h2⟩ | ⟨h1, h2⟩
  · left
    exact ⟨by rw [guardB_same he]; exact h1, (h2.ev (evE_same he)).local hh⟩
  · right
    exact ⟨by rw [guardB_same he]; exact h1, h2⟩

theorem LocOp.wr_acc {nid : Nat} {o : Oper} {t : Tr} {D : Ds} (h : LocOp P T md ops nid o t D) : ∀ p ∈ t.wr, p.1 ∈ t.acc := by
  rcases h with ⟨_, h2⟩ | ⟨_, h2⟩
  · exact h2.wr
  · subst h2; intro p hp; cases hp

theorem applyW_pt (h : Heap) (wr : List (Nat × Blk)) (i : Nat) (hn : i ∉ wr.map fun p => p.1) : hget (applyW h wr) i = hget h i :=
  applyW_hget _ _ _ fun p hp e => hn (List.mem_map.2 ⟨p, hp, e⟩)

theorem wrT_ids {h : Heap} {t : Tr} {p : Nat × Blk} (hp : p ∈ wrT h t) : p.1 ∈ t.wrs := by
  unfold wrT at hp
  unfold Tr.wrs insIds
  split at hp
  · rename_i hi
    rw [hi]
    exact List.mem_append_right _ (List.mem_map.2 ⟨p, hp, rfl⟩)
  · rename_i hi
    rw [hi]
    split at hp
    · simp only [List.mem_singleton] at hp
      subst hp
      simp
    · cases hp

/-- An operation's effect hangs on what it touches. -/
theorem wrT_same {h h' : Heap} {t : Tr} (hh : ∀ i ∈ insIds t, hget h i = hget h' i) : wrT h t = wrT h' t := by
  unfold wrT
  unfold insIds at hh
  split
  · rfl
  · rename_i id _ _ _ hi
    rw [hh id (by rw [hi]; simp)]

theorem heap_ext' {h h' : Heap} (hl : h.length = h'.length) (hg : ∀ i, hget h i = hget h' i) : h = h' := by
  apply List.ext_getElem?
  intro i
  have := hg i
  unfold hget at this
  rcases Nat.lt_or_ge i h.length with hi | hi
  · rw [List.getElem?_eq_getElem hi, List.getElem?_eq_getElem (by omega)] at this ⊢
    simpa using this
  · rw [List.getElem?_eq_none hi, List.getElem?_eq_none (by omega)]

theorem applyW_only : ∀ (wr : List (Nat × Blk)) (h h' : Heap) (i : Nat), h.length = h'.length → i ∈ (wr.map fun p => p.1) → hget (applyW h wr) i = hget (applyW h' wr) i
  | p :: wr, h, h', i, hl, hi => by
    show hget (applyW (h.set p.1 (some p.2)) wr) i = hget (applyW (h'.set p.1 (some p.2)) wr) i
    by_cases hm : i ∈ wr.map fun p => p.1
    · exact applyW_only wr _ _ i (by simpa using hl) hm
    · rw [applyW_pt _ _ _ hm, applyW_pt _ _ _ hm]
      simp only [List.map_cons, List.mem_cons] at hi
      rcases hi with hi | hi
      · rw [hget_set, hget_set, ← hi, hl]
        by_cases hq : i < h'.length
        · rw [if_pos ⟨rfl, hq⟩, if_pos ⟨rfl, hq⟩]
        · rw [if_neg (fun e => hq e.2), if_neg (fun e => hq e.2)]
          unfold hget
          rw [List.getElem?_eq_none (by omega), List.getElem?_eq_none (by omega)]
      · exact absurd hi hm

theorem disjB_spec {a b : List Nat} (h : disjB a b = true) {i : Nat} (hi : i ∈ a) : i ∉ b := by
  unfold disjB at h
  rw [List.all_eq_true] at h
  have := h i hi
  simpa using this

/-- Effects that touch nothing of each other commute. -/
theorem eff_comm {h : Heap} {s t : Tr} (h1 : disjB s.wrs t.accs = true) (h2 : disjB t.wrs s.accs = true) (ht : ∀ p ∈ t.wr, p.1 ∈ t.acc) :
    applyW (applyW h (wrT h s)) (wrT (applyW h (wrT h s)) t) = applyW (applyW h (wrT h t)) (wrT (applyW h (wrT h t)) s) := by
  have keep : ∀ (s t : Tr) (h : Heap), disjB s.wrs t.accs = true → wrT (applyW h (wrT h s)) t = wrT h t := fun s t h hd => wrT_same fun i hi => by
    refine applyW_hget _ _ _ fun p hp e => ?_
    have := disjB_spec hd (wrT_ids hp)
    exact this (by rw [e]; exact List.mem_append_left _ hi)
  rw [keep s t h h1, keep t s h h2]
  refine applyW_comm h _ _ fun p hp q hq e => ?_
  have g1 := wrT_ids hp
  have g2 := wrT_ids hq
  refine disjB_spec h1 g1 ?_
  rw [e]
  unfold Tr.wrs at g2
  unfold Tr.accs
  rcases List.mem_append.1 g2 with g | g
  · exact List.mem_append_left _ g
  · obtain ⟨r, hr, hr2⟩ := List.mem_map.1 g
    exact List.mem_append_right _ (hr2 ▸ ht r hr)

theorem ltL_irr : ∀ (a b : List Nat), ltL a b = true → ltL b a = false
  | [], [], h => by cases h
  | [], _ :: _, _ => rfl
  | _ :: _, [], h => by cases h
  | x :: xs, y :: ys, h => by
    simp only [ltL] at h ⊢
    cases h1 : Nat.blt x y with
    | true =>
      have : Nat.blt y x = false := by
        cases h2 : Nat.blt y x with
        | false => rfl
        | true => simp only [Nat.blt_eq] at h1 h2; omega
      rw [this]; rfl
    | false =>
      rw [h1] at h
      cases h2 : Nat.blt y x with
      | true => rw [h2] at h; cases h
      | false =>
        rw [h2] at h
        exact ltL_irr xs ys h

theorem ltL_trans : ∀ (a b c : List Nat), ltL a b = true → ltL b c = true → ltL a c = true
  | [], [], _, h, _ => by cases h
  | [], _ :: _, [], _, h => by cases h
  | [], _ :: _, _ :: _, _, _ => rfl
  | _ :: _, [], _, h, _ => by cases h
  | _ :: _, _ :: _, [], _, h => by cases h
  | x :: xs, y :: ys, z :: zs, h, g => by
    simp only [ltL] at h g ⊢
    cases h1 : Nat.blt x y with
    | true =>
      cases g1 : Nat.blt y z with
      | true =>
        have : Nat.blt x z = true := by simp only [Nat.blt_eq] at *; omega
        rw [this]; rfl
      | false =>
        rw [g1] at g
        cases g2 : Nat.blt z y with
        | true => rw [g2] at g; cases g
        | false =>
          have e : y = z := by
            have a1 : ¬ y < z := fun h' => by rw [← Nat.blt_eq] at h'; rw [h'] at g1; cases g1
            have a2 : ¬ z < y := fun h' => by rw [← Nat.blt_eq] at h'; rw [h'] at g2; cases g2
            omega
          subst e
          rw [h1]; rfl
    | false =>
      rw [h1] at h
      cases h2 : Nat.blt y x with
      | true => rw [h2] at h; cases h
      | false =>
        rw [h2] at h
        have e : x = y := by
          have a1 : ¬ x < y := fun h' => by rw [← Nat.blt_eq] at h'; rw [h'] at h1; cases h1
          have a2 : ¬ y < x := fun h' => by rw [← Nat.blt_eq] at h'; rw [h'] at h2; cases h2
          omega
        subst e
        cases g1 : Nat.blt x z with
        | true => rfl
        | false =>
          rw [g1] at g
          cases g2 : Nat.blt z x with
          | true => rw [g2] at g; cases g
          | false =>
            rw [g2] at g
            exact ltL_trans xs ys zs h g

theorem insK_comm1 {a b va vb : V} (hab : ltL (encV a) (encV b) = true) : ∀ (l : List (V × V)), insK a va (insK b vb l) = insK b vb (insK a va l)
  | [] => by simp only [insK, hab, ltL_irr _ _ hab, cond_true, cond_false]
  | e :: l => by
    have hba := ltL_irr _ _ hab
    cases h1 : ltL (encV b) (encV e.1) with
    | true =>
      have h2 : ltL (encV a) (encV e.1) = true := ltL_trans _ _ _ hab h1
      simp only [insK, h1, h2, hab, hba, cond_true, cond_false]
    | false =>
      cases h2 : ltL (encV a) (encV e.1) with
      | true => simp only [insK, h1, h2, hba, cond_true, cond_false]
      | false => simp only [insK, h1, h2, cond_false, insK_comm1 hab l]
theorem insK_comm {a b va vb : V} (h : (ltL (encV a) (encV b) || ltL (encV b) (encV a)) = true) (l : List (V × V)) : insK a va (insK b vb l) = insK b vb (insK a va l) := by
  rcases Bool.or_eq_true _ _ ▸ h with h | h
  · exact insK_comm1 h l
  · exact (insK_comm1 h l).symm

theorem hits_ins {kt : Nat} {k k' v' : V} {es : List (V × V)} : hitsV T kt k (insK k' v' es) = some [] ↔ hitsV T kt k es = some [] ∧ eqV T 12 kt k k' = some false := by
  have cons : hitsV T kt k ((k', v') :: es) = some [] ↔ hitsV T kt k es = some [] ∧ eqV T 12 kt k k' = some false := by
    simp only [hitsV]
    generalize eqV T 12 kt k k' = b
    generalize hitsV T kt k es = m
    cases b with
    | none => simp
    | some b => cases m with
      | none => cases b <;> simp
      | some m => cases b <;> simp
  have hp : ((k', v') :: es).Perm (insK k' v' es) := .trans (by simpa using (List.perm_append_comm (l₁ := [(k', v')]) (l₂ := es))) (insK_perm k' v' es)
  rw [← cons]
  constructor
  · intro h
    obtain ⟨a, g1, g2⟩ := hits_perm hp.symm h
    rw [List.nil_perm.1 g2] at g1
    exact g1
  · intro h
    obtain ⟨a, g1, g2⟩ := hits_perm hp h
    rw [List.nil_perm.1 g2] at g1
    exact g1

theorem loc_before {n1 n2 : Nat} {x y : Oper} {s t : Tr} (hi : indep T ops x s y t = true) {D : Ds} (hx : LocOp P T md ops n1 x s D) (hy : LocOp P T md ops n2 y t (Dapp x s D)) :
    LocOp P T md ops n2 y t D ∧ LocOp P T md ops n1 x s (Dapp y t D) ∧ Dapp y t (Dapp x s D) = Dapp x s (Dapp y t D) := by
  simp only [indep, Bool.and_eq_true, Bool.or_eq_true] at hi
  obtain ⟨ha, hi⟩ := hi
  obtain ⟨h1, h2, h3⟩ := Oper.apart_spec ha
  have hput : putE (putE D.1 x.dst s.v) y.dst t.v = putE (putE D.1 y.dst t.v) x.dst s.v := by
    cases hxd : x.dst with
    | none => rfl
    | some d =>
      cases hyd : y.dst with
      | none => rfl
      | some e =>
        have hne : d ≠ e := fun e' => h2 d hxd (by rw [hyd, e'])
        simp only [putE]
        exact List.set_comm _ _ hne
  have hex : ∀ z ∈ y.looksAt ops, D.1.getD z .undef = (putE D.1 x.dst s.v).getD z .undef := fun z hz => by rw [putE_getD (fun e => h1 z e hz)]
  have hey : ∀ z ∈ x.looksAt ops, (putE D.1 y.dst t.v).getD z .undef = D.1.getD z .undef := fun z hz => by rw [putE_getD (fun e => h3 z e hz)]
  rcases hi with ⟨d1, d2⟩ | hins
  · have l1 : LocOp P T md ops n2 y t D := hy.local hex (fun i hi' => by
      show hget (applyW D.2 (wrT D.2 s)) i = hget D.2 i
      exact applyW_hget _ _ _ (fun p hp e => disjB_spec d1 (wrT_ids hp) (e ▸ hi')))
    refine ⟨l1, hx.local hey (fun i hi' => ?_), ?_⟩
    · show hget D.2 i = hget (applyW D.2 (wrT D.2 t)) i
      rw [applyW_hget _ _ _ (fun p hp e => disjB_spec d2 (wrT_ids hp) (e ▸ hi'))]
    · simp only [Dapp]
      rw [hput, eff_comm d1 d2 l1.wr_acc]
  · unfold insB at hins
    split at hins
    · rename_i i kt k v j kt' k' v' hs ht
      simp only [Bool.and_eq_true, List.isEmpty_iff] at hins
      obtain ⟨⟨⟨⟨⟨⟨e1, e2⟩, e3⟩, e4⟩, e5⟩, e6⟩, e7⟩ := hins
      have e1 := Nat.eq_of_beq_eq_true e1
      have e2 := Nat.eq_of_beq_eq_true e2
      subst e1; subst e2
      split at e7
      · rename_i q1 q2
        -- both insert
        have insOf : ∀ {n : Nat} {o : Oper} {u : Tr} {D : Ds} {i kt : Nat} {k v : V}, LocOp P T md ops n o u D → u.ins = some (i, kt, k, v) → ∃ es clock, hget D.2 i = some (.mapc es clock) ∧ hitsV T kt k es = some [] := fun {n o u D i kt k v} hl hu => by
          rcases hl with ⟨_, ho⟩ | ⟨_, ho⟩
          · obtain ⟨dst, op, ty, pos, after, g⟩ := o
            cases op
            case insert mt m k0 v0 =>
              simp only [OpT] at ho
              obtain ⟨ti, kt0, e, id, es, clock, a1, a2, a3, a4, a5, a6, rfl⟩ := ho
              simp only [Option.some.injEq, Prod.mk.injEq] at hu
              obtain ⟨rfl, rfl, rfl, rfl⟩ := hu
              exact ⟨es, clock, a5, a6⟩
            case call c =>
              simp only [OpT] at ho
              split at ho
              · split at ho
                · rw [ho.1] at hu; cases hu
                · rw [ho.1] at hu; cases hu
                · exact ho.elim
              · exact ho.elim
              · rw [ho.1] at hu; cases hu
            all_goals (simp only [OpT] at ho; rw [ho.1] at hu; cases hu)
          · rw [ho] at hu; cases hu
        have move : ∀ {n : Nat} {o : Oper} {u : Tr} {D D' : Ds} {i kt : Nat} {k v : V} {es' : List (V × V)} {clock' : Nat}, LocOp P T md ops n o u D → u.ins = some (i, kt, k, v) → (∀ z ∈ o.looksAt ops, D'.1.getD z .undef = D.1.getD z .undef) → hget D'.2 i = some (.mapc es' clock') → hitsV T kt k es' = some [] → LocOp P T md ops n o u D' := fun {n o u D D' i kt k v es' clock'} hl hu he hg hh => by
          rcases hl with ⟨hg0, ho⟩ | ⟨_, ho⟩
          · refine .inl ⟨by rw [guardB_same he]; exact hg0, ?_⟩
            have ho := ho.ev (evE_same he)
            obtain ⟨dst, op, ty, pos, after, g⟩ := o
            cases op
            case insert mt m k0 v0 =>
              simp only [OpT] at ho ⊢
              obtain ⟨ti, kt0, e, id, es, clock, a1, a2, a3, a4, a5, a6, rfl⟩ := ho
              simp only [Option.some.injEq, Prod.mk.injEq] at hu
              obtain ⟨rfl, rfl, rfl, rfl⟩ := hu
              exact ⟨ti, kt0, e, id, es', clock', a1, a2, a3, a4, hg, hh, rfl⟩
            case call c =>
              simp only [OpT] at ho
              split at ho
              · split at ho
                · rw [ho.1] at hu; cases hu
                · rw [ho.1] at hu; cases hu
                · exact ho.elim
              · exact ho.elim
              · rw [ho.1] at hu; cases hu
            all_goals (simp only [OpT] at ho; rw [ho.1] at hu; cases hu)
          · rw [ho] at hu; cases hu
        obtain ⟨es, clock, g1, g2⟩ := insOf hx hs
        have hil : i < D.2.length := by
          rcases Nat.lt_or_ge i D.2.length with h' | h'
          · exact h'
          · unfold hget at g1; rw [List.getElem?_eq_none h'] at g1; cases g1
        have ws : wrT D.2 s = [(i, .mapc (insK k v es) (clock + 1))] := by unfold wrT; rw [hs]; simp only [g1]
        have wt : wrT D.2 t = [(i, .mapc (insK k' v' es) (clock + 1))] := by unfold wrT; rw [ht]; simp only [g1]
        have hgs : hget (applyW D.2 (wrT D.2 s)) i = some (.mapc (insK k v es) (clock + 1)) := by rw [ws]; simp only [applyW, List.foldl_cons, List.foldl_nil]; rw [hget_set, if_pos ⟨rfl, hil⟩]
        have hgt : hget (applyW D.2 (wrT D.2 t)) i = some (.mapc (insK k' v' es) (clock + 1)) := by rw [wt]; simp only [applyW, List.foldl_cons, List.foldl_nil]; rw [hget_set, if_pos ⟨rfl, hil⟩]
        obtain ⟨es2, clock2, g3, g4⟩ := insOf hy ht
        have g3' : hget (Dapp x s D).2 i = some (.mapc (insK k v es) (clock + 1)) := hgs
        rw [g3'] at g3
        simp only [Option.some.injEq, Blk.mapc.injEq] at g3
        obtain ⟨rfl, rfl⟩ := g3
        have g5 := (hits_ins.1 g4).1
        refine ⟨move hy ht hex g1 g5, move hx hs hey hgt (hits_ins.2 ⟨g2, q1⟩), ?_⟩
        have w1 : wrT (applyW D.2 (wrT D.2 s)) t = [(i, .mapc (insK k' v' (insK k v es)) (clock + 1 + 1))] := by
          unfold wrT at hgs ⊢; rw [ht]; simp only [hgs]
        have w2 : wrT (applyW D.2 (wrT D.2 t)) s = [(i, .mapc (insK k v (insK k' v' es)) (clock + 1 + 1))] := by
          unfold wrT at hgt ⊢; rw [hs]; simp only [hgt]
        simp only [Dapp]
        rw [hput, w1, w2, ws, wt, insK_comm e7]
        simp only [applyW, List.foldl_cons, List.foldl_nil, List.set_set]
      · cases e7
    · cases hins

/-- Whatever order is picked. -/
def anyD (P : Program) (T : Nat → Option TI) (md : Bool) (ops : Array Oper) (pos : Nat → Nat) (tr : Nat → Tr) (Q : Ds → Prop) : Nat → Array Bool → Ds → Prop
  | 0, listed, D => Region.ready .any ops listed = [] ∧ Q D
  | fuel + 1, listed, D =>
    (Region.ready .any ops listed = [] → Q D) ∧
    ∀ i ∈ Region.ready .any ops listed, ∀ o, ops[i]? = some o → LocOp P T md ops (pos i) o (tr i) D ∧ anyD P T md ops pos tr Q fuel (listed.setIfInBounds i true) (Dapp o (tr i) D)

/-- What is listed waits for nothing. -/
def dc (ops : Array Oper) (listed : Array Bool) : Prop := ∀ j o, ops[j]? = some o → listed.getD j false = true → ∀ e ∈ o.after, Region.binds .any e = true → listed.getD e.on false = true

/-- A list of those that each waits for, and those that these wait for. -/
def clOk (ops : Array Oper) (cl : Nat → List Nat) : Prop := ∀ j o, ops[j]? = some o → ∀ i ∈ cl j, ∃ e ∈ o.after, Region.binds .any e = true ∧ e.on < j ∧ (e.on = i ∨ i ∈ cl e.on)

theorem cl_listed {cl : Nat → List Nat} (hcl : clOk ops cl) {listed : Array Bool} (hdc : dc ops listed) {i : Nat} : ∀ (j : Nat) (o : Oper), ops[j]? = some o → (∀ e ∈ o.after, Region.binds .any e = true → listed.getD e.on false = true) → i ∈ cl j → listed.getD i false = true := by
  intro j
  induction j using Nat.strongRecOn with
  | _ j ih =>
    intro o ho hall hi
    obtain ⟨e, he, hb, hlt, h⟩ := hcl j o ho i hi
    have hl := hall e he hb
    rcases h with h | h
    · rw [← h]; exact hl
    · have hsz : j < ops.size := (Array.getElem?_eq_some_iff.1 ho).1
      have he' : ops[e.on]? = some ops[e.on] := Array.getElem?_eq_getElem (by omega)
      exact ih e.on hlt ops[e.on] he' (fun e2 h2 hb2 => hdc e.on _ he' hl e2 h2 hb2) h

theorem listed_tt {listed : Array Bool} {i : Nat} (h : listed.getD i true = false) : listed.getD i false = false := by
  rcases Nat.lt_or_ge i listed.size with h' | h'
  · simpa [h'] using h
  · simp [Array.getElem?_eq_none h'] at h

theorem anyD_first {pos : Nat → Nat} {tr : Nat → Tr} {cl : Nat → List Nat} (hcl : clOk ops cl) {Q : Ds → Prop} {i : Nat} {oi : Oper} (hi : ops[i]? = some oi) : ∀ (fuel : Nat) (listed : Array Bool) (D : Ds),
    (∀ j oj, ops[j]? = some oj → j ≠ i → listed.getD j true = false → i ∉ cl j → indep T ops oi (tr i) oj (tr j) = true) → dc ops listed → i ∈ Region.ready .any ops listed → LocOp P T md ops (pos i) oi (tr i) D →
    anyD P T md ops pos tr Q fuel (listed.setIfInBounds i true) (Dapp oi (tr i) D) → anyD P T md ops pos tr Q (fuel + 1) listed D := by
  intro fuel
  induction fuel with
  | zero =>
    intro listed D _ _ hr hloc H
    refine ⟨fun h => (by rw [h] at hr; cases hr), fun j hj o ho => ?_⟩
    by_cases hji : j = i
    · subst hji
      rw [hi] at ho
      simp only [Option.some.injEq] at ho
      subst ho
      exact ⟨hloc, H⟩
    · have := ready_mono hj hji
      rw [H.1] at this
      cases this
  | succ fuel ih =>
    intro listed D hfree hdc hr hloc H
    refine ⟨fun h => (by rw [h] at hr; cases hr), fun j hj o ho => ?_⟩
    by_cases hji : j = i
    · subst hji
      rw [hi] at ho
      simp only [Option.some.injEq] at ho
      subst ho
      exact ⟨hloc, H⟩
    · obtain ⟨hjun, oj, hoj, hall⟩ := mem_ready.1 hj
      have hoj' : oj = o := by rw [ho] at hoj; simpa using hoj.symm
      subst hoj'
      have hnot : i ∉ cl j := fun hc => by
        have h1 := cl_listed hcl hdc j oj hoj hall hc
        have h2 := listed_tt (mem_ready.1 hr).1
        rw [h1] at h2; cases h2
      have hind := hfree j oj hoj hji hjun hnot
      obtain ⟨k1, k2⟩ := H.2 j (ready_mono hj hji) oj hoj
      obtain ⟨l1, l2, l3⟩ := loc_before hind hloc k1
      refine ⟨l1, ih (listed.setIfInBounds j true) (Dapp oj (tr j) D) (fun k ok hk hki hun hno => hfree k ok hk hki ?_ hno) (fun k ok hk hkl e he hb => ?_) (ready_mono hr (Ne.symm hji)) l2 ?_⟩
      · by_cases hjk : j = k
        · subst hjk; exact hjun
        · rwa [getD_set_ne true hjk] at hun
      · by_cases hjk : j = k
        · subst hjk
          rw [hoj] at hk
          simp only [Option.some.injEq] at hk
          subst hk
          exact getD_set_true (hall e he hb)
        · rw [getD_set_ne false hjk] at hkl
          exact getD_set_true (hdc k ok hk hkl e he hb)
      · rw [Array.setIfInBounds_comm _ _ hji, ← l3]
        exact k2

/-- In the order of the text. -/
def LexD (P : Program) (T : Nat → Option TI) (md : Bool) (ops : Array Oper) (pos : Nat → Nat) (tr : Nat → Tr) (Q : Ds → Prop) : List Oper → Nat → Ds → Prop
  | [], _, D => Q D
  | o :: l, k, D => LocOp P T md ops (pos k) o (tr k) D ∧ LexD P T md ops pos tr Q l (k + 1) (Dapp o (tr k) D)

theorem anyD_lex {pos : Nat → Nat} {tr : Nat → Tr} {cl : Nat → List Nat} (hcl : clOk ops cl) {Q : Ds → Prop} (hback : ∀ j o, ops[j]? = some o → ∀ e ∈ o.after, Region.binds .any e = true → e.on < j)
    (hind : ∀ i j oi oj, i < j → ops[i]? = some oi → ops[j]? = some oj → i ∉ cl j → indep T ops oi (tr i) oj (tr j) = true) : ∀ (l : List Oper) (k : Nat) (listed : Array Bool) (D : Ds), (∀ m, l[m]? = ops[k + m]?) → (∀ m, m < ops.size → listed.getD m false = decide (m < k)) → listed.size = ops.size →
    LexD P T md ops pos tr Q l k D → anyD P T md ops pos tr Q l.length listed D
  | [], k, listed, D, hl, hlist, hsz, h => by
    have hk : ops.size ≤ k := by
      have := hl 0
      simp at this
      omega
    have hr : Region.ready .any ops listed = [] := by
      rw [List.eq_nil_iff_forall_not_mem]
      intro i hi
      obtain ⟨h1, o, ho, _⟩ := mem_ready.1 hi
      have hi' := (Array.getElem?_eq_some_iff.1 ho).1
      have h2 := hlist i hi'
      rw [listed_tt h1] at h2
      simp at h2
      omega
    exact ⟨hr, h⟩
  | o :: l, k, listed, D, hl, hlist, hsz, h => by
    obtain ⟨h1, h2⟩ := h
    have hk : ops[k]? = some o := by simpa using (hl 0).symm
    have hkl := (Array.getElem?_eq_some_iff.1 hk).1
    have htt : ∀ m, m < ops.size → listed.getD m true = listed.getD m false := fun m hm => by simp [hsz, hm]
    refine anyD_first hcl hk l.length listed D (fun j oj hoj hjk hun hno => ?_) (fun j oj hoj hjl e he hb => ?_) (mem_ready.2 ⟨?_, o, hk, fun e he hb => ?_⟩) h1 (anyD_lex hcl hback hind l (k + 1) _ _ (fun m => by have := hl (m + 1); simpa [Nat.add_assoc, Nat.add_comm 1 m] using this) (fun m hm => ?_) (by simpa using hsz) h2)
    · have hj := (Array.getElem?_eq_some_iff.1 hoj).1
      rw [htt j hj, hlist j hj] at hun
      simp at hun
      exact hind k j o oj (by omega) hk hoj hno
    · have hj := (Array.getElem?_eq_some_iff.1 hoj).1
      rw [hlist j hj] at hjl
      simp at hjl
      have := hback j oj hoj e he hb
      rw [hlist e.on (by omega)]
      simp; omega
    · rw [htt k hkl, hlist k hkl]; simp
    · have := hback k o hk e he hb
      rw [hlist e.on (by omega)]
      simpa using this
    · by_cases hmk : k = m
      · subst hmk
        have : (listed.setIfInBounds k true).getD k false = true := by simp [hsz, hkl]
        rw [this]; simp
      · rw [getD_set_ne false hmk, hlist m hm]
        have : (m < k) ↔ (m < k + 1) := by omega
        simp [this]
end
end Go.Cx
