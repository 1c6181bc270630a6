/- A calculus for calls of the program: canonical values and heaps, and what each operation, loop and call does to them; no condition on the program. -/
import Derived.Test.YtchadfgdcncpkaaGreatCx7bg
namespace Go.Cx
open Go.RowKit

theorem wp_value {P : Program} {w w' : World} {R : Value → World → Prop} {a : Act} {o : Oper} {cv : Value} (Q : Exit → Act → World → Prop) (hx : (execOp a.eval o).run P w = .ok (.value cv) w') (hd : R cv w') :
    o.wp P a w (fun a' w' => ∃ cv, a' = a.put o.dst cv ∧ R cv w') Q := by
  unfold Oper.wp
  rw [hx, Oper.upon_value]
  exact ⟨cv, rfl, hd⟩
theorem wp_skipped {P : Program} {w w' : World} {R : Value → World → Prop} {a : Act} {o : Oper} (Q : Exit → Act → World → Prop) (hx : (execOp a.eval o).run P w = .ok .skip w') (hd : R Go.undef w') :
    o.wp P a w (fun a' w' => ∃ cv, a' = a.put o.dst cv ∧ R cv w') Q := by
  unfold Oper.wp
  rw [hx, Oper.upon_skip]
  exact ⟨Go.undef, rfl, hd⟩
theorem RvA.toL {φ : Phi} {μ : Mu} {xs : List V} {a : Array Value} (h : RvA φ μ xs a) : RvL φ μ xs a :=
  ⟨h.1, fun j => by
    by_cases hj : j < xs.length
    · exact h.2 j hj
    · have : xs.getD j .undef = .undef := by simp [List.getElem?_eq_none (Nat.le_of_not_lt hj)]
      rw [this]; exact .undef _ _⟩


theorem hget_pad (h : Heap) (n i : Nat) : hget (h ++ List.replicate n none) i = hget h i := by
  unfold hget
  rcases Nat.lt_or_ge i h.length with hi | hi
  · rw [List.getElem?_append_left hi]
  · rw [List.getElem?_append_right hi, List.getElem?_eq_none (l := h) hi, List.getElem?_replicate]
    split <;> rfl

theorem Rel.pad {φ : Phi} {μ : Mu} {B : Nat} {h : Heap} {w w' : World} (r : Rel φ μ B h w) (hw : w'.heap = w.heap) (n : Nat) : Rel φ μ B (h ++ List.replicate n none) w' := by
  refine ⟨r.glob, fun b o v hc => ?_, fun b n hn => by rw [hw]; exact r.size b n hn, r.inj, fun i b x hi => ?_, fun i k hk => ?_⟩
  · rw [← r.cell b o v hc]; simp only [World.cell?, hw]
  · have := r.dom i b x hi
    rw [hw]
    exact ⟨by simp; omega, this.2⟩
  · rw [hget_pad] at hk
    obtain ⟨b, x, h1, h2⟩ := r.blk i k hk
    exact ⟨b, x, h1, h2.mono φ.le_refl (Mu.le_refl _) (by rw [hw]) (fun _ _ h => h)⟩

def forceB {β : Type} (x : Option Blk) (k : Option Blk → β) : β :=
  match x with
  | none => k none
  | some (.cells e cs) => forceL cs fun cs => k (some (.cells e cs))
  | some (.token a b) => k (some (.token a b))
  | some (.grow v e sz cs) => k (some (.grow v e sz cs))
  | some .dead => k (some .dead)
  | some (.siter s p) => k (some (.siter s p))
  | some (.miter a b c d) => k (some (.miter a b c d))
  | some (.map es c) => k (some (.map es c))
  | some (.mapc es c) => k (some (.mapc es c))
  | some (.loop env ps a b st p) => fl2 env fun env => k (some (.loop env ps a b st p))
theorem forceB_eq {β : Type} (x : Option Blk) (k : Option Blk → β) : forceB x k = k x := by
  unfold forceB
  split <;> simp [fl2_eq, forceL_eq]
def forceH {β : Type} : Heap → (Heap → β) → β
  | [], k => k []
  | x :: xs, k => forceB x fun x => forceH xs fun ys => k (x :: ys)
theorem forceH_eq {β : Type} : ∀ (h : Heap) (k : Heap → β), forceH h k = k h
  | [], _ => rfl
  | x :: xs, k => by rw [forceH, forceB_eq, forceH_eq xs]

/-- What is written, its cells to the ground. -/
def forceWB {β : Type} : List (Nat × Blk) → (List (Nat × Blk) → β) → β
  | [], k => k []
  | x :: xs, k => match x.2 with
    | .cells e cs => fl2 cs fun cs => forceWB xs fun ys => k ((x.1, .cells e cs) :: ys)
    | _ => forceWB xs fun ys => k (x :: ys)
theorem forceWB_eq {β : Type} : ∀ (l : List (Nat × Blk)) (k : List (Nat × Blk) → β), forceWB l k = k l
  | [], _ => rfl
  | (i, b) :: xs, k => by cases b <;> simp only [forceWB, fl2_eq, forceWB_eq xs]

def putE (env : List V) (d : Option Tmp) (v : V) : List V :=
  match d with
  | some d => env.set d v
  | none => env

/-- Both ways of a test. -/
inductive BCase (b : Bool) (X Y : Prop) : Prop where
  | mk (t : b = true → X) (f : b = false → Y)
theorem BCase.yes {b : Bool} {X Y : Prop} (h : b = true) (x : X) : BCase b X Y := ⟨fun _ => x, fun e => by rw [h] at e; cases e⟩
theorem BCase.no {b : Bool} {X Y : Prop} (h : b = false) (y : Y) : BCase b X Y := ⟨fun e => (by rw [h] at e; cases e), fun _ => y⟩

def guardP (all : List Oper) (env : List V) (g : Option (Nat × Bool)) (run skip : Prop) : Prop :=
  match g with
  | none => run
  | some (j, want) =>
    match all[j]? with
    | some oj =>
      (match oj.dst with
      | some d => (match env.getD d .undef, want with | .bool b, true => BCase b run skip | .bool b, false => BCase b skip run | .tup [], _ => skip | _, _ => False)
      | none => False)
    | none => False

/-- The same; what is known of the test behind it is written into the temporary. -/
def guardN (all : List Oper) (env : List V) (g : Option (Nat × Bool)) (run skip : List V → Prop) : Prop :=
  match g with
  | none => run env
  | some (j, want) =>
    match all[j]? with
    | some oj =>
      (match oj.dst with
      | some d => (match env.getD d .undef, want with
        | .bool b, true => BCase b (forceL (env.set d (.bool true)) run) (forceL (env.set d (.bool false)) skip)
        | .bool b, false => BCase b (forceL (env.set d (.bool true)) skip) (forceL (env.set d (.bool false)) run)
        | .tup [], _ => skip env
        | _, _ => False)
      | none => False)
    | none => False

theorem set_same {env : List V} {d : Nat} {b : Bool} (h : env.getD d .undef = .bool b) : env.set d (.bool b) = env := by
  rw [List.getD_eq_getElem?_getD] at h
  rcases Nat.lt_or_ge d env.length with hd | hd
  · rw [List.getElem?_eq_getElem hd] at h
    simp only [Option.getD_some] at h
    rw [← h]
    exact List.set_getElem_self hd
  · rw [List.getElem?_eq_none hd] at h
    cases h

theorem guardN_old {all : List Oper} {env : List V} {g : Option (Nat × Bool)} {run skip : List V → Prop} (hk : guardN all env g run skip) : guardP all env g (run env) (skip env) := by
  unfold guardN at hk
  unfold guardP
  split at hk
  · exact hk
  · split at hk
    · split at hk
      · split at hk
        · rename_i b hb
          simp only [forceL_eq] at hk
          refine ⟨fun e => ?_, fun e => ?_⟩
          · subst e; have := hk.1 rfl; rwa [set_same hb] at this
          · subst e; have := hk.2 rfl; rwa [set_same hb] at this
        · rename_i b hb
          simp only [forceL_eq] at hk
          refine ⟨fun e => ?_, fun e => ?_⟩
          · subst e; have := hk.1 rfl; rwa [set_same hb] at this
          · subst e; have := hk.2 rfl; rwa [set_same hb] at this
        · exact hk
        · exact hk.elim
      · exact hk.elim
    · exact hk.elim

theorem guardN_mono {all : List Oper} {env : List V} {g : Option (Nat × Bool)} {a a' b b' : List V → Prop} (h1 : ∀ e, a e → a' e) (h2 : ∀ e, b e → b' e) (hk : guardN all env g a b) : guardN all env g a' b' := by
  unfold guardN at hk ⊢
  split at hk
  · exact h1 _ hk
  · split at hk
    · split at hk
      · split at hk
        · simp only [forceL_eq] at hk ⊢
          exact ⟨fun e => h1 _ (hk.1 e), fun e => h2 _ (hk.2 e)⟩
        · simp only [forceL_eq] at hk ⊢
          exact ⟨fun e => h2 _ (hk.1 e), fun e => h1 _ (hk.2 e)⟩
        · exact h2 _ hk
        · exact hk.elim
      · exact hk.elim
    · exact hk.elim

/-- A call of yield: a round of the loop, to its end. -/
structure RoundP (P : Program) (id : Nat) (args : List V) (h : Heap) (K : V → Heap → Prop) : Prop where
  run : ∀ (φ : Phi) (μ : Mu) (B : Nat) (w : World) (cargs : Array Value) (b : Nat), B ≤ w.heap.size → Rel φ μ B h w → RvL φ μ args cargs → μ id = some (b, none) →
    ∃ f tmps assign body, (Instr.yield b cargs).run P w = .ok (.round b f tmps assign body) w ∧ RoundIn Fence.wide 0 P b f tmps assign body w (Ret φ μ B w K)

/-- One operation, by its outcome. -/
def opN (P : Program) (T : Nat → Option TI) (md : Bool) (ev : Operand → V) (h : Heap) (K : V → Heap → Prop) (op : Op) : Prop :=
  natL h.length fun nid => match opF P T md ev (hget h) nid op with
    | some o => cond o.c (forceWB o.wr fun wr => K o.v (applyW (h ++ List.replicate o.nw none) wr)) False
    | none => False

/-- What a map's iterator may come to next: any entry that it has not come to. -/
def nextP (x : V) (h : Heap) (K : V → Heap → Prop) : Prop :=
  match x with
  | .ptr i 0 =>
    (match hget h i with
    | some (.miter mid since seen last) =>
      (match hget h mid with
      | some (.map es clock) =>
        cond (Nat.beq since clock && Nat.beq last clock && es.all fun e => Nat.blt e.2.2 clock)
          (match es.filter fun e => !seen.contains e.2.2 with
          | [] => K (.tup [.bool false]) h
          | e :: l => ∀ e' ∈ e :: l, K (.tup [.bool true, e'.1, e'.2.1]) (h.set i (some (.miter mid since (seen ++ [e'.2.2]) clock)))) False
      | _ => False)
    | _ => False)
  | _ => False

def idxOk (T : Nat → Option TI) (t sz : Nat) : Bool :=
  match T t with
  | some ti => (match ti.k with | .slice e => (match T e with | some ei => sz == ei.size | none => false) | _ => false)
  | none => false

/-- An append to a slice whose block may grow. -/
def apG (ev : Operand → V) (c : Call) : Bool :=
  match c.callee, c.args.toList.map ev with
  | .builtin .append, [.gsl .., _] => true
  | .builtin .append, [.nils, .int ..] => true
  | _, _ => false
/-- A slice of a slice whose block may grow. -/
def slG (x : V) (mx : Option Operand) : Bool :=
  match x, mx with
  | .gsl .., none => true
  | _, _ => false
/-- The same, its outcome being given. -/
def opNX (P : Program) (T : Nat → Option TI) (md : Bool) (ev : Operand → V) (h : Heap) (K : V → Heap → Prop) (op : Op) : Prop :=
  ∃ v wr acc nw, opF P T md ev (hget h) h.length op = some ⟨true, v, wr, acc, nw⟩ ∧ K v (applyW (h ++ List.replicate nw none) wr)
theorem opNX_iff {P : Program} {T : Nat → Option TI} {md : Bool} {ev : Operand → V} {h : Heap} {K : V → Heap → Prop} {op : Op} : opN P T md ev h K op ↔ opNX P T md ev h K op := by
  unfold opN opNX
  rw [natL_eq]
  constructor
  · intro hk
    split at hk
    · rename_i o ho
      obtain ⟨c, v, wr, acc, nw⟩ := o
      cases c with
      | false => exact hk.elim
      | true => exact ⟨v, wr, acc, nw, ho, by simpa only [cond_true, forceWB_eq] using hk⟩
    · exact hk.elim
  · rintro ⟨v, wr, acc, nw, ho, hk⟩
    rw [ho]
    simp only [cond_true, forceWB_eq]
    exact hk
/-- What is read of a block that grows. -/
def LdOk (T : Nat → Option TI) (t : Nat) (h : Heap) (i q ver : Nat) (v : V) : Prop := ∃ e sz cs, hget h i = some (.grow ver e sz cs) ∧ loadT T t cs q = some (true, v)

def opY (P : Program) (T : Nat → Option TI) (md : Bool) (ev : Operand → V) (h : Heap) (K : V → Heap → Prop) (op : Op) : Prop :=
  match op with
  | .call c =>
    (match c.callee with
    | .value f => (match ev f with
      | .fn (.func g) first caps => fl2 (first ++ (c.args.toList.map ev) ++ caps) fun args => Sem P g args h K
      | .yld id => fl2 (c.args.toList.map ev) fun args => RoundP P id args h K
      | _ => False)
    | .invoke _ _ => False
    | .builtin _ => cond (apG ev c) (opNX P T md ev h K (.call c)) (opN P T md ev h K (.call c)))
  | .next it false => nextP (ev it) h K
  | .indexAddr t x i => (match ev x, ev i with
    | .psl sz xs _, .int _ n => ∃ cs, (0 ≤ n ∧ xs[n.toNat]? = some cs) ∧ cond (idxOk T t sz) (K (.iptr cs) h) False
    | _, _ => opN P T md ev h K (.indexAddr t x i))
  | .lookup t m k ok => ∃ v acc, opF P T md ev (hget h) h.length (.lookup t m k ok) = some ⟨true, v, [], acc, 0⟩ ∧ K v h
  | .load t x => (match ev x with
    | .gptr i q ver => ∃ v, LdOk T t h i q ver v ∧ K v h
    | _ => opN P T md ev h K (.load t x))
  | .slice t x lo hi mx => cond (slG (ev x) mx) (opNX P T md ev h K (.slice t x lo hi mx)) (opN P T md ev h K (.slice t x lo hi mx))
  | op => opN P T md ev h K op

theorem opF_load {P : Program} {T : Nat → Option TI} {md : Bool} {ev : Operand → V} {h : Heap} {nid t : Nat} {x : Operand} {i q ver : Nat} (hx : ev x = .gptr i q ver) {o : Out} (ho : opF P T md ev (hget h) nid (.load t x) = some o) (hc : o.c = true) : ∃ v, LdOk T t h i q ver v ∧ o = ⟨true, v, [], [i], 0⟩ := by
  simp only [opF, loadF, hx] at ho
  split at ho
  · rename_i ver' e sz cs hg
    split at ho
    · rename_i c v hl
      simp only [Option.some.injEq] at ho
      subst ho
      simp only [Bool.and_eq_true] at hc
      obtain ⟨h1, rfl⟩ := hc
      have := Nat.eq_of_beq_eq_true h1
      subst this
      exact ⟨v, ⟨e, sz, cs, hg, hl⟩, by simp⟩
    · cases ho
  · cases ho
theorem LdOk.opF {P : Program} {T : Nat → Option TI} {md : Bool} {ev : Operand → V} {h : Heap} {nid t : Nat} {x : Operand} {i q ver : Nat} (hx : ev x = .gptr i q ver) {v : V} (hl : LdOk T t h i q ver v) : opF P T md ev (hget h) nid (.load t x) = some ⟨true, v, [], [i], 0⟩ := by
  obtain ⟨e, sz, cs, h1, h2⟩ := hl
  simp only [Go.Cx.opF, loadF, hx, h1, h2, Nat.beq_refl, Bool.and_self]
theorem opN_load {P : Program} {T : Nat → Option TI} {md : Bool} {ev : Operand → V} {h : Heap} {K : V → Heap → Prop} {t : Nat} {x : Operand} {i q ver : Nat} (hx : ev x = .gptr i q ver) : opN P T md ev h K (.load t x) ↔ ∃ v, LdOk T t h i q ver v ∧ K v h := by
  unfold opN
  rw [natL_eq]
  constructor
  · intro hk
    split at hk
    · rename_i o ho
      cases hc : o.c with
      | false => rw [hc] at hk; exact hk.elim
      | true =>
        obtain ⟨v, h1, rfl⟩ := opF_load hx ho hc
        exact ⟨v, h1, by simpa [applyW, forceWB] using hk⟩
    · exact hk.elim
  · rintro ⟨v, hl, hk⟩
    rw [hl.opF hx]
    simp only [cond_true, forceWB, applyW, List.foldl_nil, List.replicate_zero, List.append_nil]
    exact hk

/-- What a lookup comes to. -/
theorem opF_lookup {P : Program} {T : Nat → Option TI} {md : Bool} {ev : Operand → V} {hg : Nat → Option Blk} {nid t : Nat} {m k : Operand} {ok : Bool} {o : Out} (h : opF P T md ev hg nid (.lookup t m k ok) = some o) : o.wr = [] ∧ o.nw = 0 := by
  simp only [opF] at h
  unfold lookupF at h
  split at h
  · split at h
    · split at h
      · simp only [Option.some.injEq] at h; subst h; exact ⟨rfl, rfl⟩
      · simp only [Option.some.injEq] at h; subst h; exact ⟨rfl, rfl⟩
      · cases h
    · cases h
  · cases h
theorem opN_lookup {P : Program} {T : Nat → Option TI} {md : Bool} {ev : Operand → V} {h : Heap} {K : V → Heap → Prop} {t : Nat} {m k : Operand} {ok : Bool} : opN P T md ev h K (.lookup t m k ok) ↔ ∃ v acc, opF P T md ev (hget h) h.length (.lookup t m k ok) = some ⟨true, v, [], acc, 0⟩ ∧ K v h := by
  unfold opN
  rw [natL_eq]
  constructor
  · intro hk
    split at hk
    · rename_i o ho
      obtain ⟨h1, h2⟩ := opF_lookup ho
      obtain ⟨c, v, wr, acc, nw⟩ := o
      simp only at h1 h2
      subst h1 h2
      cases c with
      | false => exact hk.elim
      | true => exact ⟨v, acc, ho, by simpa [applyW, forceWB] using hk⟩
    · exact hk.elim
  · rintro ⟨v, acc, ho, hk⟩
    simp only [ho, cond_true, forceWB, applyW, List.foldl_nil, List.replicate_zero, List.append_nil]
    exact hk

def stepP (P : Program) (T : Nat → Option TI) (md : Bool) (all : List Oper) (o : Oper) (env : List V) (h : Heap) (J : List V → Heap → Prop) : Prop :=
  guardN all env o.guard
    (fun env => opY P T md (evE env) h (fun v h' => v.force fun v => forceL (putE env o.dst v) fun env' => forceH h' fun h' => J env' h') o.op)
    (fun env => forceL (putE env o.dst (.tup [])) fun env' => J env' h)

/-- By the recursor itself: so a kernel's term of what is left is the elaborator's. -/
def regP (P : Program) (T : Nat → Option TI) (md : Bool) (all l : List Oper) : List V → Heap → (List V → Heap → Prop) → Prop :=
  List.rec (motive := fun _ => List V → Heap → (List V → Heap → Prop) → Prop) (fun env h K => K env h) (fun o _ ih env h K => stepP P T md all o env h fun env' h' => ih env' h' K) l
theorem regP_cons {P : Program} {T : Nat → Option TI} {md : Bool} {all : List Oper} {o : Oper} {rest : List Oper} {env : List V} {h : Heap} {K : List V → Heap → Prop} : regP P T md all (o :: rest) env h K = stepP P T md all o env h fun env' h' => regP P T md all rest env' h' K := rfl

inductive X where
  | normal
  | exit (id : Nat)
  | ret
def X.toExit : X → Exit
  | .normal => .normal
  | .exit id => .exit id
  | .ret => .ret

/-! Forgetting: temporaries may be struck, and blocks from some number on. -/
def V.under1 (m : Nat) : V → Bool
  | .ptr i _ => Nat.blt i m
  | .gptr i _ _ => Nat.blt i m
  | .gsl i _ _ _ _ _ _ => Nat.blt i m
  | .lsl i _ _ _ _ => Nat.blt i m
  | .map i => Nat.blt i m
  | .yld i => Nat.blt i m
  | .psl _ _ (.own i) => Nat.blt i m
  | .fn _ _ _ => false
  | .agg _ => false
  | .tup _ => false
  | _ => true
def V.under2 (m : Nat) : V → Bool
  | .fn _ a b => a.all (V.under1 m) && b.all (V.under1 m)
  | .agg cs => cs.all (V.under1 m)
  | .tup cs => cs.all (V.under1 m)
  | v => v.under1 m
def V.under (m : Nat) : V → Bool
  | .fn _ a b => a.all (V.under2 m) && b.all (V.under2 m)
  | .agg cs => cs.all (V.under2 m)
  | .tup cs => cs.all (V.under2 m)
  | v => v.under1 m
def Blk.under (m : Nat) : Option Blk → Bool
  | some (.cells _ cs) => cs.all (V.under m)
  | some (.token ..) => true
  | some (.grow _ _ _ cs) => cs.all (V.under m)
  | some .dead => true
  | some (.siter ..) => true
  | some (.miter mid _ _ _) => Nat.blt mid m
  | some (.map es _) => es.all fun x => x.1.under m && x.2.1.under m
  | some (.mapc es _) => es.all fun x => x.1.under m && x.2.under m
  | some (.loop env _ _ _ _ _) => env.all (V.under m)
  | none => true

def forgE : List V → List V → Prop
  | [], [] => True
  | x :: xs, y :: ys => (y = x ∨ y = .undef) ∧ forgE xs ys
  | _, _ => False

inductive Forg (m0 : Nat) (env : List V) (h : Heap) (env' : List V) (h' : Heap) : Prop where
  | same : forgE env env' → h' = h → Forg m0 env h env' h'
  | cut : forgE env env' → m0 ≤ h'.length → h' = h.take h'.length → (env'.all (V.under h'.length) && h'.all (Blk.under h'.length)) = true → Forg m0 env h env' h'

/-- The least that is closed under rounds. -/
structure LoopP (P : Program) (T : Nat → Option TI) (c : Code) (body : List V → Heap → (X → List V → Heap → Prop) → Prop) (m0 : Nat) (env : List V) (h : Heap) (Q : X → List V → Heap → Prop) : Prop where
  lfp : ∀ R : List V → Heap → Prop, (∀ env1 h1 env2 h2, Forg m0 env1 h1 env2 h2 → body env2 h2 (fun x env h => match x with | .normal => R env h | x => Q x env h) → R env1 h1) → R env h

def PostC (φ : Phi) (μ : Mu) (B : Nat) (w : World) (d : List Deferred) (Q : X → List V → Heap → Prop) : Exit → Act → World → Prop := fun e a' w' =>
  ∃ x env' h' φ' μ', e = X.toExit x ∧ Q x env' h' ∧ EnvR φ' μ' env' a'.tmps ∧ Rel φ' μ' B h' w' ∧ Ext φ μ w φ' μ' ∧ Fr μ w w' ∧ Mk μ' w w' d a'.defers

structure DrawP (P : Program) (T : Nat → Option TI) (ops : List Oper) (env : List V) (h : Heap) (K : List V → Heap → Prop) : Prop where
  run : ∀ (ρ : Option Nat) (φ : Phi) (μ : Mu) (B : Nat) (w : World) (a : Act) (id : Nat), RoOk ρ w → B ≤ w.heap.size → Rel φ μ B h w → EnvR φ μ env a.tmps →
    (Code.region id ops.toArray true).wpIn (fen ρ) 0 P (fun e a' w' => ∃ env' h' φ' μ', e = .normal ∧ K env' h' ∧ EnvR φ' μ' env' a'.tmps ∧ Rel φ' μ' B h' w' ∧ Ext φ μ w φ' μ' ∧ Fr μ w w' ∧ a'.defers = a.defers) a w

/-- A range over a function, to its end. -/
structure RangeP (P : Program) (T : Nat → Option TI) (f : Operand) (ps : Array Tmp) (assign body : Code) (env : List V) (h : Heap) (Q : X → List V → Heap → Prop) : Prop where
  run : ∀ (ρ : Option Nat) (φ : Phi) (μ : Mu) (B : Nat) (w : World) (a : Act), RoOk ρ w → B ≤ w.heap.size → Rel φ μ B h w → EnvR φ μ env a.tmps →
    (Code.rangeFunc f ps assign body).wpIn (fen ρ) 0 P (PostC φ μ B w a.defers Q) a w

abbrev WP := List V → Heap → (X → List V → Heap → Prop) → Prop
def regC (P : Program) (T : Nat → Option TI) (md : Bool) (ops : Array Oper) (draw : Bool) : WP := fun env h Q => forceL ops.toList fun l => cond draw (DrawP P T l env h (Q .normal)) (regP P T md l l env h (Q .normal))
def seqC (a b : WP) : WP := fun env h Q => a env h fun x env h => match x with | .normal => b env h Q | x => Q x env h
def condC (c : Operand) (a b : WP) : WP := fun env h Q => (match evE env c with | .bool t => BCase t (a env h Q) (b env h Q) | _ => False)
def blockC (id : Nat) (a : WP) : WP := fun env h Q => a env h fun x env h => match x with | .exit i => cond (i == id) (Q .normal env h) (Q (.exit i) env h) | x => Q x env h

def wpC (P : Program) (T : Nat → Option TI) (md : Nat → Bool) (c : Code) : WP :=
  Code.rec (motive := fun _ => WP) (fun env h Q => Q .normal env h) (fun id ops draw => regC P T (md id) ops draw) (fun _ _ a b => seqC a b) (fun c _ _ a b => condC c a b) (fun id _ a => blockC id a)
    (fun c a env h Q => LoopP P T c a h.length env h Q) (fun f ps assign body _ _ env h Q => RangeP P T f ps assign body env h Q) (fun id env h Q => Q (.exit id) env h) (fun _ _ _ _ _ => False) (fun _ _ _ _ => False) (fun _ _ _ _ => False)
    (fun env h Q => Q .ret env h) (fun _ _ _ _ => False) c

/-! ### Soundness -/
theorem PostC.trans {φ φ1 : Phi} {μ μ1 : Mu} {B : Nat} {w w1 : World} {d d1 : List Deferred} {Q : X → List V → Heap → Prop} (hx : Ext φ μ w φ1 μ1) (hf : Fr μ w w1) (hm : Mk μ1 w w1 d d1) {e : Exit} {a : Act} {w' : World} (h : PostC φ1 μ1 B w1 d1 Q e a w') : PostC φ μ B w d Q e a w' := by
  obtain ⟨x, env', h', φ', μ', h1, h2, h3, h4, h5, h6, h7⟩ := h
  exact ⟨x, env', h', φ', μ', h1, h2, h3, h4, hx.trans hf.size h5, hf.trans hx h6, hm.trans hf.size h5 h6 h7⟩

theorem PostC.mono {φ : Phi} {μ : Mu} {B : Nat} {w : World} {d : List Deferred} {Q Q' : X → List V → Heap → Prop} (hQ : ∀ x e h, Q x e h → Q' x e h) {e : Exit} {a : Act} {w' : World} (h : PostC φ μ B w d Q e a w') : PostC φ μ B w d Q' e a w' := by
  obtain ⟨x, env', h', φ', μ', h1, h2, rest⟩ := h
  exact ⟨x, env', h', φ', μ', h1, hQ _ _ _ h2, rest⟩

theorem Mk.less {μ μ' : Mu} {w0 w : World} {d d' : List Deferred} (hm : ∀ i x, μ' i = some x → μ i = some x) (h : Mk μ w0 w d d') : Mk μ' w0 w d d' := by
  obtain ⟨ms, e, n, h⟩ := h
  exact ⟨ms, e, n, fun r hr => ⟨(h r hr).1, (h r hr).2.1, fun i x hi => (h r hr).2.2 i x (hm i _ hi)⟩⟩

/-- Blocks from m on are struck. -/
def Mu.upto (μ : Mu) (m : Nat) : Mu := fun i => if i < m then μ i else none

theorem below1_rv {φ : Phi} {μ : Mu} {m : Nat} {v : V} {c : Value} (h : Rv φ μ v c) (hb : v.under1 m = true) : Rv φ (μ.upto m) v c := by
  cases h with
  | undef => exact .undef _ _
  | bool => exact .bool _ _
  | int => exact .int _ _ _
  | str => exact .str _ _
  | nilp => exact .nilp _
  | ptr _ id off b hm => exact .ptr _ _ _ _ (by unfold Mu.upto; rw [if_pos (by simpa [V.under1, Nat.blt_eq] using hb)]; exact hm)
  | gptr _ id off ver b m' a h1 h2 h3 => exact .gptr _ _ _ _ b m' a (by unfold Mu.upto; rw [if_pos (by simpa [V.under1, Nat.blt_eq] using hb)]; exact h1) h2 h3
  | gsl _ id sz off n lo ex ver b m' cc a h1 h2 h3 h4 h5 h6 => exact .gsl _ _ _ _ _ _ _ _ b m' cc a (by unfold Mu.upto; rw [if_pos (by simpa [V.under1, Nat.blt_eq] using hb)]; exact h1) h2 h3 h4 h5 h6
  | nilm => exact .nilm _
  | iptr _ cs b off c h1 h2 => exact .iptr _ _ _ _ c h1 h2
  | fn => cases hb
  | nilfn => exact .nilfn _
  | nils => exact .nils _
  | psl0 => exact .psl0 _ _ _ _
  | psl _ sz xs tok b off cap c h0 h1 h2 h3 h4 =>
    refine .psl _ _ _ _ _ _ _ c h0 h1 h2 h3 ?_
    cases tok with
    | any => trivial
    | exact => exact h4
    | own id =>
      obtain ⟨b', m', g1, g2⟩ := h4
      exact ⟨b', m', by unfold Mu.upto; rw [if_pos (by simpa [V.under1, Nat.blt_eq] using hb)]; exact g1, g2⟩
  | lsl _ id sz off n cap b hm h' => exact .lsl _ _ _ _ _ _ _ (by unfold Mu.upto; rw [if_pos (by simpa [V.under1, Nat.blt_eq] using hb)]; exact hm) h'
  | map _ id b hm => exact .map _ _ _ (by unfold Mu.upto; rw [if_pos (by simpa [V.under1, Nat.blt_eq] using hb)]; exact hm)
  | yld _ id b hm => exact .yld _ _ _ (by unfold Mu.upto; rw [if_pos (by simpa [V.under1, Nat.blt_eq] using hb)]; exact hm)
  | agg => cases hb
  | tup => cases hb

theorem mem_getD {l : List V} {j : Nat} (hj : j < l.length) : l.getD j .undef ∈ l := by
  rw [List.getD_eq_getElem?_getD, List.getElem?_eq_getElem hj]; exact List.getElem_mem hj

theorem all_getD {l : List V} {p : V → Bool} (h : l.all p = true) {j : Nat} (hj : j < l.length) : p (l.getD j .undef) = true := by
  rw [List.all_eq_true] at h
  exact h _ (mem_getD hj)

theorem below2_rv {φ : Phi} {μ : Mu} {m : Nat} {v : V} {c : Value} (h : Rv φ μ v c) (hb : v.under2 m = true) : Rv φ (μ.upto m) v c := by
  unfold V.under2 at hb
  split at hb
  · simp only [Bool.and_eq_true] at hb
    cases h with
    | fn _ f a b cf cc l1 l2 h1 h2 => exact .fn _ _ _ _ _ _ l1 l2 (fun j hj => below1_rv (h1 j hj) (all_getD hb.1 hj)) (fun j hj => below1_rv (h2 j hj) (all_getD hb.2 hj))
  · obtain ⟨cs, rfl, hA⟩ := h.agg_inv
    exact .agg _ _ _ hA.1 (fun j hj => below1_rv (hA.2 j hj) (all_getD hb hj))
  · obtain ⟨cs, rfl, hA⟩ := h.tup_inv
    exact .tup _ _ _ hA.1 (fun j hj => below1_rv (hA.2 j hj) (all_getD hb hj))
  · exact below1_rv h hb

theorem below_rv {φ : Phi} {μ : Mu} {m : Nat} {v : V} {c : Value} (h : Rv φ μ v c) (hb : v.under m = true) : Rv φ (μ.upto m) v c := by
  unfold V.under at hb
  split at hb
  · simp only [Bool.and_eq_true] at hb
    cases h with
    | fn _ f a b cf cc l1 l2 h1 h2 => exact .fn _ _ _ _ _ _ l1 l2 (fun j hj => below2_rv (h1 j hj) (all_getD hb.1 hj)) (fun j hj => below2_rv (h2 j hj) (all_getD hb.2 hj))
  · obtain ⟨cs, rfl, hA⟩ := h.agg_inv
    exact .agg _ _ _ hA.1 (fun j hj => below2_rv (hA.2 j hj) (all_getD hb hj))
  · obtain ⟨cs, rfl, hA⟩ := h.tup_inv
    exact .tup _ _ _ hA.1 (fun j hj => below2_rv (hA.2 j hj) (all_getD hb hj))
  · exact below1_rv h hb

theorem forgE_ok {φ : Phi} {μ : Mu} : ∀ (env env' : List V), forgE env env' → env'.length = env.length ∧ ∀ (j : Nat) (c : Value), Rv φ μ (env.getD j .undef) c → Rv φ μ (env'.getD j .undef) c
  | [], [], _ => ⟨rfl, fun j c h => h⟩
  | x :: xs, y :: ys, h => by
    obtain ⟨h1, h2⟩ := h
    obtain ⟨l, hr⟩ := forgE_ok (φ := φ) (μ := μ) xs ys h2
    refine ⟨by simp [l], fun j c hc => ?_⟩
    cases j with
    | zero =>
      rcases h1 with rfl | rfl
      · exact hc
      · exact .undef _ _
    | succ j => simpa using hr j c (by simpa using hc)
  | [], _ :: _, h => by cases h
  | _ :: _, [], h => by cases h

theorem cut_rel {φ : Phi} {μ : Mu} {B : Nat} {h : Heap} {w : World} (r : Rel φ μ B h w) {m : Nat} (hm : m ≤ h.length) (hb : (h.take m).all (Blk.under m) = true) : Rel φ (μ.upto m) B (h.take m) w := by
  have sub : ∀ i x, μ.upto m i = some x → i < m ∧ μ i = some x := fun i x hx => by
    unfold Mu.upto at hx
    split at hx
    · rename_i hi; exact ⟨hi, hx⟩
    · cases hx
  refine ⟨r.glob, r.cell, r.size, fun i j b x y hi hj => r.inj i j b x y (sub i _ hi).2 (sub j _ hj).2, fun i b x hi => ?_, fun i k hk => ?_⟩
  · have := r.dom i b x (sub i _ hi).2
    exact ⟨by simp; have := (sub i _ hi).1; omega, this.2⟩
  · have him : i < m := by
      rcases Nat.lt_or_ge i m with h' | h'
      · exact h'
      · unfold hget at hk; rw [List.getElem?_eq_none (by simp; omega)] at hk; cases hk
    have hk' : hget h i = some k := by
      unfold hget at hk ⊢
      rwa [List.getElem?_take_of_lt him] at hk
    obtain ⟨b, x, h1, h2⟩ := r.blk i k hk'
    refine ⟨b, x, by unfold Mu.upto; rw [if_pos him]; exact h1, ?_⟩
    have hbk : Blk.under m (some k) = true := by
      rw [List.all_eq_true] at hb
      refine hb _ ?_
      unfold hget at hk
      cases hq : (h.take m)[i]? with
      | none => rw [hq] at hk; cases hk
      | some o =>
        rw [hq] at hk
        simp only [Option.join_some] at hk
        subst hk
        exact List.mem_of_getElem? hq
    cases k with
    | cells e cs =>
      obtain ⟨g0, c, g1, g2, g3, g4⟩ := h2
      exact ⟨g0, c, g1, g2, fun j hj => below_rv (g3 j hj) (all_getD hbk hj), g4⟩
    | grow ver e sz cs =>
      obtain ⟨g0, c, g1, g2, g3, g4, g5⟩ := h2
      exact ⟨g0, c, g1, g2, g3, fun j hj => below_rv (g4 j hj) (all_getD hbk hj), g5⟩
    | dead => trivial
    | siter s p => exact h2
    | miter mid since seen last =>
      obtain ⟨g0, bm, g1, g2⟩ := h2
      exact ⟨g0, bm, by unfold Mu.upto; rw [if_pos (by simpa [Blk.under, Nat.blt_eq] using hbk)]; exact g1, g2⟩
    | token sz n => exact h2
    | map es clock =>
      obtain ⟨g0, c, g1, g2, g3⟩ := h2
      refine ⟨g0, c, g1, g2, fun j x y hx hy => ?_⟩
      obtain ⟨k1, k2, k3⟩ := g3 j x y hx hy
      simp only [Blk.under, List.all_eq_true] at hbk
      have := hbk x (List.mem_of_getElem? hx)
      simp only [Bool.and_eq_true] at this
      exact ⟨below_rv k1 this.1, below_rv k2 this.2, k3⟩
    | mapc es clock =>
      obtain ⟨g0, c, fs, g1, g2, g3, g4⟩ := h2
      refine ⟨g0, c, fs, g1, g2, fun j x y hx hy => ?_, g4⟩
      obtain ⟨k1, k2, k3⟩ := g3 j x y hx hy
      simp only [Blk.under, List.all_eq_true] at hbk
      have := hbk (x.1, x.2.1) (g4.1.mem_iff.1 (List.mem_map_of_mem (f := fun x : V × V × Nat => (x.1, x.2.1)) (List.mem_of_getElem? hx)))
      simp only [Bool.and_eq_true] at this
      exact ⟨below_rv k1 this.1, below_rv k2 this.2, k3⟩
    | loop env ps assign body st pend =>
      obtain ⟨g0, fn, t, d, g1, g2, g3⟩ := h2
      exact ⟨g0, fn, t, d, g1, g2, fun j hj => below_rv (g3 j hj) (all_getD hbk hj)⟩

theorem forg_ok {φ0 φ : Phi} {μ0 μ : Mu} {B m0 : Nat} {h1 h2 : Heap} {w0 w : World} {env1 env2 : List V} {tmps : Array Value} (hm0 : ∀ i b x, μ0 i = some (b, x) → i < m0) (hx : Ext φ0 μ0 w0 φ μ) (r : Rel φ μ B h1 w) (he : EnvR φ μ env1 tmps) (hf : Forg m0 env1 h1 env2 h2) :
    ∃ μ2, Ext φ0 μ0 w0 φ μ2 ∧ Rel φ μ2 B h2 w ∧ EnvR φ μ2 env2 tmps ∧ ∀ i x, μ2 i = some x → μ i = some x := by
  cases hf with
  | same hE hh =>
    subst hh
    obtain ⟨l, hr⟩ := forgE_ok (φ := φ) (μ := μ) env1 env2 hE
    exact ⟨μ, hx, r, ⟨l.trans he.size, fun j => hr j _ (he.rv j)⟩, fun _ _ h => h⟩
  | cut hE hm hh hb =>
    obtain ⟨l, hr⟩ := forgE_ok (φ := φ) (μ := μ) env1 env2 hE
    simp only [Bool.and_eq_true] at hb
    have hle : h2.length ≤ h1.length := by rw [hh]; simp; omega
    generalize hl : h2.length = m at *
    subst hh
    refine ⟨μ.upto m, ⟨hx.phi, fun i x hi => ?_, fun i b x hi => ?_, hx.cells⟩, cut_rel r hle hb.2, ⟨l.trans he.size, fun j => ?_⟩, fun i x hi => ?_⟩
    · have him := hm0 i x.1 x.2 hi
      have e : μ.upto m i = μ i := by unfold Mu.upto; rw [if_pos (by omega)]
      rw [e]
      exact hx.mu i x hi
    · unfold Mu.upto at hi
      split at hi
      · exact hx.fresh i b x hi
      · cases hi
    · have h3 := hr j _ (he.rv j)
      by_cases hj : j < env2.length
      · exact below_rv h3 (all_getD hb.1 hj)
      · have : env2.getD j .undef = .undef := by simp [List.getElem?_eq_none (Nat.le_of_not_lt hj)]
        rw [this]; exact .undef _ _
    · unfold Mu.upto at hi
      split at hi
      · exact hi
      · cases hi

theorem rv_skip (φ : Phi) (μ : Mu) : Rv φ μ (.tup []) Go.undef := .tup _ _ _ rfl (fun j hj => by simp at hj)
theorem yielded_none {φ : Phi} {μ : Mu} {env : List V} {tmps : Array Value} (he : EnvR φ μ env tmps) {ops : Array Oper} {j d : Nat} {oj : Oper} (h1 : ops[j]? = some oj) (h2 : oj.dst = some d) (h3 : env.getD d .undef = .tup []) : yielded ops tmps j = none := by
  have h4 := he.rv d
  rw [h3] at h4
  have hd : ∀ b, tmps[d]? ≠ some (.bool b) := by
    intro b hb
    have e : tmps.getD d Go.undef = .bool b := by rw [Array.getD_eq_getD_getElem?, hb]; rfl
    rw [e] at h4
    cases h4
  have e : yielded ops tmps j = (match tmps[d]? with | some (.bool b) => some b | _ => none) := by simp [yielded, h1, h2]
  rw [e]
  split
  · rename_i b hb; exact absurd hb (hd b)
  · rfl
theorem yielded_bool {φ : Phi} {μ : Mu} {env : List V} {tmps : Array Value} (he : EnvR φ μ env tmps) {ops : Array Oper} {j d : Nat} {oj : Oper} {b : Bool} (h1 : ops[j]? = some oj) (h2 : oj.dst = some d) (h3 : env.getD d .undef = .bool b) : yielded ops tmps j = some b := by
  have h4 := he.rv d
  rw [h3] at h4
  have hd : tmps[d]? = some (.bool b) := by
    rcases Nat.lt_or_ge d tmps.size with h' | h'
    · have e : tmps.getD d Go.undef = tmps[d] := by simp [h']
      rw [e] at h4
      generalize hq : tmps[d] = q at h4
      cases h4
      rw [Array.getElem?_eq_getElem h', hq]
    · have e : tmps.getD d Go.undef = Go.undef := by simp [Array.getElem?_eq_none h']
      rw [e] at h4
      cases h4
  simp [yielded, h1, h2, hd]

theorem roundIn_fen {ρ : Option Nat} {n : Nat} {P : Program} {l : Nat} {f : FuncId} {tmps : Array Value} {assign body : Code} {w : World} {R : Ending → World → Prop} (h : RoundIn Fence.wide 0 P l f tmps assign body w R) : RoundIn (fen ρ) n P l f tmps assign body w R :=
  ⟨trivial, fun c cs _ => h.2 c cs (room_wide _)⟩

section
variable {P : Program} {T : Nat → Option TI} (hT : TOk P T)
include hT

theorem opN_ok {ρ : Option Nat} {md : Bool} {φ : Phi} {μ : Mu} {B : Nat} {h : Heap} {w : World} (hB : B ≤ w.heap.size) (r : Rel φ μ B h w) {a : Act} {ev : Operand → V} (he : ∀ x, Rv φ μ (ev x) (a.eval x)) {K : V → Heap → Prop} (Q : Exit → Act → World → Prop) (o : Oper) (hd : ∀ c, o.op ≠ .defer c) (hk : opN P T md ev h K o.op) :
    o.wpIn (fen ρ) 0 P a w (fun a' w' => ∃ cv, a' = a.put o.dst cv ∧ Done φ μ B w K cv w') Q := by
  unfold opN at hk
  rw [natL_eq] at hk
  split at hk
  · rename_i out hf
    cases hc : out.c with
    | false => rw [hc] at hk; cases hk
    | true =>
      rw [hc] at hk
      simp only [cond_true, forceWB_eq] at hk
      have hpad : hget (h ++ List.replicate out.nw none) = hget h := by funext i; exact hget_pad h out.nw i
      have hfr : ∀ q, μ (h.length + q) = none := fun q => by
        cases hq : μ (h.length + q) with
        | none => rfl
        | some x => have := (r.dom _ x.1 x.2 hq).1; omega
      obtain ⟨cv, w', h1, φ', μ', h2, h3, h4, h5, _⟩ := opF_ok (nid := h.length) hT hB (r.pad (w' := w) rfl out.nw) hc (by simp) (fun q _ => hfr q) he o (by rw [hpad]; exact hf)
      refine wpIn_of_op hd ?_
      have hdone : Done φ μ B w K cv w' := ⟨_, _, φ', μ', hk, h2, h3, h4, h5⟩
      rcases h1 with h1 | ⟨h1, rfl⟩
      · exact wp_value Q h1 hdone
      · exact wp_skipped Q h1 hdone
  · cases hk

omit hT in
theorem EntR.filter {φ : Phi} {μ : Mu} {p : Nat → Bool} : ∀ {es : List (V × V × Nat)} {cs : List MapEntry}, EntR φ μ es cs → EntR φ μ (es.filter fun e => p e.2.2) (cs.filter fun e => p e.born)
  | [], cs, h => by
    have : cs = [] := List.length_eq_zero_iff.1 (by have := h.1; simpa using this)
    subst this
    exact ⟨rfl, fun j x y hx => by simp at hx⟩
  | e :: es, cs, h => by
    obtain ⟨c, cs', rfl, h1, h2, h3, h'⟩ := h.cons
    have ih := EntR.filter (p := p) h'
    rw [List.filter_cons, List.filter_cons, ← h3]
    cases hp : p e.2.2 with
    | false => simpa using ih
    | true =>
      simp only [if_true]
      refine ⟨by simp [ih.1], fun j x y hx hy => ?_⟩
      cases j with
      | zero => simp at hx hy; subst hx; subst hy; exact ⟨h1, h2, h3⟩
      | succ j => exact ih.2 j x y (by simpa using hx) (by simpa using hy)

omit hT in
theorem EntR.born {φ : Phi} {μ : Mu} {p : Nat → Bool} : ∀ {es : List (V × V × Nat)} {cs : List MapEntry}, EntR φ μ es cs → (es.all fun e => p e.2.2) = (cs.all fun e => p e.born)
  | [], cs, h => by
    have : cs = [] := List.length_eq_zero_iff.1 (by have := h.1; simpa using this)
    subst this
    rfl
  | e :: es, cs, h => by
    obtain ⟨c, cs', rfl, h1, h2, h3, h'⟩ := h.cons
    rw [List.all_cons, List.all_cons, h3, EntR.born (p := p) h']

omit hT in
theorem run_next {φ : Phi} {μ : Mu} {B : Nat} {h : Heap} {w : World} (r : Rel φ μ B h w) {x : V} {cx : Value} {ty : Nat} (hx : Rv φ μ x cx) {K : V → Heap → Prop} (hk : nextP x h K) : ∃ cv w', (Instr.next cx false ty).run P w = .ok cv w' ∧ Done φ μ B w K cv w' := by
  unfold nextP at hk
  split at hk
  · rename_i id
    split at hk
    · rename_i mid since seen last hh
      split at hk
      · rename_i es clock hm
        generalize hcc : (Nat.beq since clock && Nat.beq last clock && es.all fun e => Nat.blt e.2.2 clock) = cc at hk
        cases cc with
        | false => cases hk
        | true =>
          simp only [cond_true] at hk
          simp only [Bool.and_eq_true] at hcc
          obtain ⟨⟨e1, e2⟩, hall⟩ := hcc
          have e1 := Nat.eq_of_beq_eq_true e1
          have e2 := Nat.eq_of_beq_eq_true e2
          subst e1; subst e2
          cases hx with
          | ptr _ _ _ b hb =>
            obtain ⟨b', x', hb', h0, bm, hbm, h1⟩ := r.blk id _ hh
            rw [hb] at hb'
            simp only [Option.some.injEq, Prod.mk.injEq] at hb'
            obtain ⟨rfl, _⟩ := hb'
            obtain ⟨c, h2, hE⟩ := hget_map r hm hbm
            have hn1 : ∀ c' e fr, Obj.mapIter (some bm) last seen.toArray last ≠ .cells c' e fr := fun _ _ _ e => by cases e
            have hn2 : ∀ c' e fr, Obj.map c last ≠ .cells c' e fr := fun _ _ _ e => by cases e
            have hall' : (c.toList.all fun e => Nat.blt e.born last) = true := by rw [← EntR.born (p := fun n => Nat.blt n last) hE]; exact hall
            rw [List.all_eq_true] at hall'
            have hlt : ∀ e ∈ c.toList, e.born < last := fun e he => nblt_t (hall' e he)
            have hF := EntR.filter (p := fun n => !seen.contains n) hE
            have hold : (c.filter fun e => !seen.toArray.contains e.born) = (c.toList.filter fun e => !seen.contains e.born).toArray := by
              rw [← Array.toArray_toList (xs := c.filter _), Array.toList_filter]
              simp
            obtain ⟨left, hleft⟩ : ∃ left, left = (c.toList.filter fun e => !seen.contains e.born) := ⟨_, rfl⟩
            rw [← hleft] at hold hF
            have hlold : left.toArray.filter (fun e => e.born < last) = left.toArray := by
              rw [← Array.toArray_toList (xs := left.toArray.filter _), Array.toList_filter]
              congr 1
              rw [List.filter_eq_self]
              intro e he
              have := hlt e (by rw [hleft] at he; simp at he; simpa using he.1)
              simpa using this
            have hlnew : left.toArray.filter (fun e => e.born ≥ last) = #[] := by
              rw [← Array.toArray_toList (xs := left.toArray.filter _), Array.toList_filter]
              congr 1
              rw [List.filter_eq_nil_iff]
              intro e he
              have := hlt e (by rw [hleft] at he; simp at he; simpa using he.1)
              simp; omega
            have hguard : (!seen.toArray.isEmpty && !c.isEmpty && c.all (fun e => decide (e.born ≥ last))) = false := by
              cases hce : c.isEmpty with
              | true => simp
              | false =>
                have : ∃ e, e ∈ c.toList := by
                  cases hcl : c.toList with
                  | nil => have : c = #[] := by rw [← Array.toArray_toList (xs := c), hcl]
                           subst this; simp at hce
                  | cons e _ => exact ⟨e, by simp⟩
                obtain ⟨e, he⟩ := this
                have hne : (c.all fun e => decide (e.born ≥ last)) = false := by
                  rw [← Array.all_toList, List.all_eq_false]
                  exact ⟨e, he, by have := hlt e he; simp; omega⟩
                rw [hne]; simp
            have hrun : (Instr.next (.pointer (some ⟨b, 0, none⟩)) false ty).run P w = (do
                let candidates : Array (Option MapEntry) := (if left.toArray.isEmpty then #[none] else #[]) ++ (left.toArray ++ #[]).map some
                match candidates[← choose (.mapNext candidates.size)]? with
                | some (some e) =>
                  setObj b (.mapIter (some bm) last (seen.toArray.push e.born) last)
                  pure (.tuple #[.bool true, e.key, e.val])
                | some none => pure (.tuple #[.bool false])
                | none => stuck "Next: no such candidate" : Go.Sem Value).run P w := by
              simp only [Instr.next, Sem.run_bind, run_getObj h1 hn1, Result.andThen_ok, run_getObj h2 hn2, hguard, Bool.false_eq_true, if_false, hold, hlold, hlnew]
              rfl
            split at hk
            · rename_i hl0
              have hlen0 : left = [] := List.length_eq_zero_iff.1 (by rw [hF.1, hl0]; rfl)
              rw [hlen0] at hrun
              refine ⟨.tuple #[.bool false], w, ?_, Done.here hk (.tup _ _ _ rfl (fun j hj => by simp at hj; subst hj; exact .bool _ _)) r⟩
              rw [hrun]
              simp [Question.forced]
            · rename_i e0 l0 hl0
              have hln : left.length = (e0 :: l0).length := by rw [hF.1, hl0]
              have hpos : 0 < left.length := by rw [hln]; simp
              have hcand : ((if left.toArray.isEmpty then #[none] else #[]) ++ (left.toArray ++ #[]).map some : Array (Option MapEntry)) = (left.map some).toArray := by
                have : left.toArray.isEmpty = false := by
                  cases left with
                  | nil => simp at hpos
                  | cons _ _ => rfl
                rw [this]; simp
              rw [hcand] at hrun
              have hsz : (left.map some).toArray.size = left.length := by simp
              -- whatever is chosen
              have one : ∀ (i : Nat) (w0 : World), i < left.length → w0.heap = w.heap → (w0.os = w.os ∧ w0.tape = w.tape ∧ w0.output = w.output ∧ w.drawn ≤ w0.drawn) → ∃ cv w', ((match (left.map some).toArray[i]? with
                  | some (some e) => do
                    setObj b (.mapIter (some bm) last (seen.toArray.push e.born) last)
                    pure (.tuple #[.bool true, e.key, e.val])
                  | some none => pure (.tuple #[.bool false])
                  | none => stuck "Next: no such candidate" : Go.Sem Value)).run P w0 = .ok cv w' ∧ Done φ μ B w K cv w' := fun i w0 hi hw0 hw1 => by
                have hget : (left.map some).toArray[i]? = some (some left[i]) := by simp [hi]
                rw [hget]
                have hx : (e0 :: l0)[i]? = some ((e0 :: l0)[i]'(by rw [← hln]; exact hi)) := List.getElem?_eq_getElem _
                obtain ⟨k1, k2, k3⟩ := hF.2 i _ left[i] (by rw [hl0]; exact hx) (List.getElem?_eq_getElem hi)
                have hK := hk _ (List.getElem_mem (by rw [← hln]; exact hi))
                generalize (e0 :: l0)[i]'(by rw [← hln]; exact hi) = x at k1 k2 k3 hK
                have r0 : Rel φ μ B h w0 := ⟨r.glob, fun b o v hv => by rw [← r.cell b o v hv]; simp only [World.cell?, hw0], fun b n hn => by rw [hw0]; exact r.size b n hn, r.inj, fun i b x hi => by rw [hw0]; exact r.dom i b x hi, fun i k hk => by
                  obtain ⟨bb, y, q1, q2⟩ := r.blk i k hk
                  exact ⟨bb, y, q1, q2.mono φ.le_refl (Mu.le_refl _) (by rw [hw0]) (fun _ _ h => h)⟩⟩
                have h1' : w0.heap[b]? = some (.mapIter (some bm) last seen.toArray last) := by rw [hw0]; exact h1
                have hbl : b < w0.heap.size := (Array.getElem?_eq_some_iff.1 h1').1
                obtain ⟨φ', μ', q1, q2, q3, q4, _⟩ := OutR.putObj (h := h) (nid := 0) (out := ⟨true, .tup [.bool true, x.1, x.2.1], [(id, .miter mid last (seen ++ [x.2.2]) last)], [], 0⟩) (cv := .tuple #[.bool true, left[i].key, left[i].val]) (k := .miter mid last (seen ++ [x.2.2]) last) (o' := .mapIter (some bm) last (seen.toArray.push left[i].born) last) r0 hb h1' hn1 (fun _ e => by cases e) ⟨rfl, bm, hbm, by rw [World.putObj_heap_same hbl, k3]; simp⟩ rfl (.tup _ _ _ rfl (fun j hj => by
                  simp at hj
                  rcases (show j = 0 ∨ j = 1 ∨ j = 2 by omega) with rfl | rfl | rfl
                  · exact .bool _ _
                  · exact k1
                  · exact k2))
                refine ⟨_, _, by simp only [Sem.run_bind, run_setObj h1' hn1, Result.andThen_ok, Sem.run_pure], _, _, φ', μ', hK, q1, q2, ⟨q3.phi, q3.mu, fun i b x hi => by rw [← hw0]; exact q3.fresh i b x hi, fun b o v hv => by rw [← hw0]; exact q3.cells b o v hv⟩, ⟨q4.os.trans hw1.1, q4.tape.trans hw1.2.1, q4.output.trans hw1.2.2.1, by rw [← hw0]; exact q4.size, fun k hk hn => by rw [← hw0]; exact q4.block k (by rw [hw0]; exact hk) hn, fun k rr hk => q4.loops k rr (by rw [hw0]; exact hk), Nat.le_trans hw1.2.2.2 q4.mono⟩⟩
              by_cases hq : left.length ≤ 1
              · obtain ⟨cv, w', g1, g2⟩ := one 0 w hpos rfl ⟨rfl, rfl, rfl, Nat.le_refl _⟩
                refine ⟨cv, w', ?_, g2⟩
                rw [hrun]
                simp only [Sem.run_bind, run_choose, Question.forced, hsz, hq, decide_true, if_true, Result.andThen_ok]
                exact g1
              · obtain ⟨cv, w', g1, g2⟩ := one ((w.tape w.drawn (.mapNext left.length)) % left.length) { w with drawn := w.drawn + 1 } (Nat.mod_lt _ hpos) rfl ⟨rfl, rfl, rfl, Nat.le_succ _⟩
                refine ⟨cv, w', ?_, g2⟩
                rw [hrun]
                simp only [Sem.run_bind, run_choose, Question.forced, hsz, hq, decide_false, Bool.false_eq_true, if_false, Result.andThen_ok, Question.cut]
                exact g1
      · cases hk
    · cases hk
  · cases hk

theorem opY_ok {ρ : Option Nat} {md : Bool} {φ : Phi} {μ : Mu} {B : Nat} {h : Heap} {w : World} (hB : B ≤ w.heap.size) (r : Rel φ μ B h w) {a : Act} {ev : Operand → V} (he : ∀ x, Rv φ μ (ev x) (a.eval x)) {K : V → Heap → Prop} (Q : Exit → Act → World → Prop) (o : Oper) (hk : opY P T md ev h K o.op) :
    o.wpIn (fen ρ) 0 P a w (fun a' w' => ∃ cv, a' = a.put o.dst cv ∧ Done φ μ B w K cv w') Q := by
  have plain : opN P T md ev h K o.op → (∀ c, o.op ≠ .defer c) → o.wpIn (fen ρ) 0 P a w (fun a' w' => ∃ cv, a' = a.put o.dst cv ∧ Done φ μ B w K cv w') Q := fun hp hd => opN_ok hT hB r he Q o hd hp
  cases ho : o.op
  case call c =>
    have hd : ∀ c', o.op ≠ .defer c' := fun c' e => by rw [ho] at e; cases e
    rw [ho] at hk
    simp only [opY] at hk
    split at hk
    · rename_i f hf
      have hfv := he f
      generalize hcf : a.eval f = cf at hfv
      split at hk
      · rename_i g first caps hid
        rw [fl2_eq] at hk
        rw [hid] at hfv
        cases hfv with
        | fn _ _ _ _ c1 c2 l1 l2 h1 h2 =>
          have hA : RvL φ μ (first ++ (c.args.toList.map ev) ++ caps) (c1 ++ c.args.map a.eval ++ c2) :=
            (RvA.app (RvA.app ⟨l1, h1⟩ ⟨(evL he c.args).1, (evL he c.args).2⟩) ⟨l2, h2⟩).toL
          have hdone : ∀ {e : Ending} {w' : World}, Ret φ μ B w K e w' → ∃ cv, e = .returned cv ∧ Done φ μ B w K cv w' := fun ⟨v, h', φ', μ', cv, e, hK, hv, hr, hx, hfr⟩ => ⟨cv, e, v, h', φ', μ', hK, hv, hr, hx, hfr⟩
          refine wpIn_of_op hd ?_
          rcases hk.run φ μ B w _ hB r hA with ⟨hent, hcalls⟩ | ⟨v, hval, hret⟩
          · have hrun : (execOp a.eval o).run P w = .ok (.enter g (c1 ++ c.args.map a.eval ++ c2)) w := by
              unfold execOp
              simp only [ho, resolve, hf, hcf, Deferred.ofValue, Sem.run_bind, Sem.run_pure, Result.andThen_ok, invoke]
              exact hent
            unfold Oper.wp
            rw [hrun, Oper.upon_enter]
            refine hcalls.mono fun e w' he' => ?_
            obtain ⟨cv, rfl, hdn⟩ := hdone he'
            exact ⟨cv, rfl, hdn⟩
          · have hrun : (execOp a.eval o).run P w = .ok (.value v) w := by
              unfold execOp
              simp only [ho, resolve, hf, hcf, Deferred.ofValue, Sem.run_bind, Sem.run_pure, Result.andThen_ok, invoke]
              exact hval
            obtain ⟨cv, e, hdn⟩ := hdone hret
            cases e
            exact wp_value Q hrun hdn
      · rename_i id hid
        rw [fl2_eq] at hk
        rw [hid] at hfv
        cases hfv with
        | yld _ _ b hb =>
          obtain ⟨fn, tmps, as, bo, hy, hround⟩ := hk.run φ μ B w (c.args.map a.eval) b hB r (RvA.toL ⟨(evL he c.args).1, (evL he c.args).2⟩) hb
          refine ⟨fun _ _ => trivial, ?_⟩
          have hrun : (execOp a.eval o).run P w = .ok (.round b fn tmps as bo) w := by
            unfold execOp
            simp only [ho, resolve, hf, hcf, Deferred.ofValue, Sem.run_bind, Sem.run_pure, Result.andThen_ok, invoke, Array.empty_append, hy]
          rw [fen_round, semAt_fen hd, hrun, Oper.uponIn_round]
          refine ⟨depth_fen, (roundIn_fen hround).mono fun e w' he' => ?_⟩
          obtain ⟨v, h', φ', μ', cv, rfl, hK, hv, hr, hx, hfr⟩ := he'
          exact ⟨cv, rfl, v, h', φ', μ', hK, hv, hr, hx, hfr⟩
      · cases hk
    · cases hk
    · exact plain (by rw [ho]; (cases hap : apG ev c with
      | true => rw [hap] at hk; exact opNX_iff.2 hk
      | false => rw [hap] at hk; exact hk)) hd
  case next it b =>
    have hd : ∀ c', o.op ≠ .defer c' := fun c' e => by rw [ho] at e; cases e
    cases b with
    | true => rw [ho] at hk; exact plain (by rw [ho]; exact hk) hd
    | false =>
      rw [ho] at hk
      obtain ⟨cv, w', g1, g2⟩ := run_next (P := P) (ty := o.type) r (he it) hk
      refine wpIn_of_op hd (wp_value Q ?_ g2)
      unfold execOp
      simp only [ho, g1, Sem.run_bind, Result.andThen_ok, Sem.run_pure]
  case indexAddr t x i =>
    have hd : ∀ c', o.op ≠ .defer c' := fun c' e => by rw [ho] at e; cases e
    rw [ho] at hk
    simp only [opY] at hk
    split at hk
    · rename_i sz xs tk kk n hx hi
      refine plain ?_ hd
      obtain ⟨cs, ⟨h1, h2⟩, h3⟩ := hk
      obtain ⟨hl, hE⟩ := List.getElem?_eq_some_iff.1 h2
      rw [ho]
      unfold opN
      rw [natL_eq]
      unfold idxOk at h3
      split at h3
      · rename_i ti hti
        split at h3
        · rename_i e hke
          split at h3
          · rename_i ei hei
            cases hsz : (sz == ei.size) with
            | false => rw [hsz] at h3; cases h3
            | true =>
              rw [hsz] at h3
              have hb : (decide (0 ≤ n) && decide (n < (xs.length : Int))) = true := by
                simp only [Bool.and_eq_true, decide_eq_true_eq]; omega
              have hg : xs.getD n.toNat [] = cs := by rw [List.getD_eq_getElem?_getD, h2]; rfl
              simp only [opF, pureO, indexAddrO, hti, hke, hei, hx, hi, hsz, cond_true, hb, hg, forceWB, applyW, List.foldl_nil, List.replicate_zero, List.append_nil]
              exact h3
          · cases h3
        · cases h3
      · cases h3
    · exact plain (by rw [ho]; exact hk) hd
  case lookup t m k ok =>
    have hd : ∀ c', o.op ≠ .defer c' := fun c' e => by rw [ho] at e; cases e
    rw [ho] at hk
    exact plain (by rw [ho]; exact opN_lookup.2 hk) hd
  case load t x =>
    have hd : ∀ c', o.op ≠ .defer c' := fun c' e => by rw [ho] at e; cases e
    rw [ho] at hk
    refine plain ?_ hd
    rw [ho]
    simp only [opY] at hk
    split at hk
    · rename_i hx
      exact (opN_load hx).2 hk
    · exact hk
  case slice t x lo hi mx =>
    have hd : ∀ c', o.op ≠ .defer c' := fun c' e => by rw [ho] at e; cases e
    rw [ho] at hk
    refine plain ?_ hd
    rw [ho]
    simp only [opY] at hk
    cases hs : slG (ev x) mx with
    | true => rw [hs] at hk; exact opNX_iff.2 hk
    | false => rw [hs] at hk; exact hk
  case defer c => rw [ho] at hk; simp only [opY, opN, natL_eq, opF, pureO] at hk
  all_goals (rw [ho] at hk; exact plain (by rw [ho]; exact hk) (fun c' e => by rw [ho] at e; cases e))

theorem regP_ok {ρ : Option Nat} {md : Bool} (all : List Oper) (Q : Exit → Act → World → Prop) {K : List V → Heap → Prop} : ∀ (l : List Oper) (env : List V) (h : Heap) (φ : Phi) (μ : Mu) (B : Nat) (w : World) (a : Act),
    B ≤ w.heap.size → Rel φ μ B h w → EnvR φ μ env a.tmps → regP P T md all l env h K →
    (∀ env' h' φ' μ' a' w', K env' h' → EnvR φ' μ' env' a'.tmps → Rel φ' μ' B h' w' → Ext φ μ w φ' μ' → Fr μ w w' → a'.defers = a.defers → Q .normal a' w') → wpListIn (fen ρ) 0 P all.toArray Q l a w := by
  intro l
  induction l with
  | nil =>
    intro env h φ μ B w a hB r he hk hQ
    exact hQ env h φ μ a w hk he r (Ext.refl _ _ _) (Fr.refl _ _) rfl
  | cons o rest ih =>
    intro env h φ μ B w a hB r he hk hQ
    have hrun : (opY P T md (evE env) h (fun v h' => v.force fun v => forceL (putE env o.dst v) fun env' => forceH h' fun h' => regP P T md all rest env' h' K) o.op) → o.wpIn (fen ρ) 0 P a w (wpListIn (fen ρ) 0 P all.toArray Q rest) Q := fun ho => by
      have := opY_ok (ρ := ρ) hT hB r (fun x => he.eval r x) Q o ho
      refine Go.Oper.wpIn_mono (fun a' w' hd => ?_) this
      obtain ⟨cv, rfl, v, h', φ', μ', hk', hv, r', hx, hf⟩ := hd
      simp only [V.force_eq, forceL_eq, forceH_eq] at hk'
      refine ih _ h' φ' μ' B w' (a.put o.dst cv) (Nat.le_trans hB hf.size) r' ?_ hk' (fun env'' h'' φ'' μ'' a'' w'' k1 k2 k3 k4 k5 k6 => hQ env'' h'' φ'' μ'' a'' w'' k1 k2 k3 (hx.trans hf.size k4) (hf.trans hx k5) (k6.trans ?_))
      · exact (he.mono hx.phi hx.mu).put hv o.dst
      · cases o.dst <;> rfl
    have hskip : (forceL (putE env o.dst (.tup [])) fun env' => regP P T md all rest env' h K) → (∀ f, o.about P w a.eval = some f → (fen ρ).fn f) ∧ wpListIn (fen ρ) 0 P all.toArray Q rest (a.put o.dst Go.undef) w := fun hs => by
      rw [forceL_eq] at hs
      refine ⟨fun _ _ => trivial, ih _ h φ μ B w (a.put o.dst Go.undef) hB r (he.put (rv_skip _ _) o.dst) hs (fun env'' h'' φ'' μ'' a'' w'' k1 k2 k3 k4 k5 k6 => hQ env'' h'' φ'' μ'' a'' w'' k1 k2 k3 k4 k5 (k6.trans ?_))⟩
      cases o.dst <;> rfl
    unfold wpListIn
    rw [regP_cons] at hk
    unfold stepP at hk
    replace hk := guardN_old hk
    dsimp only at hk
    unfold guardP at hk
    split at hk
    · rename_i hg
      rw [if_pos (by simp [Region.wanted, hg])]
      exact hrun hk
    · rename_i j want hg
      split at hk
      · rename_i oj hoj
        split at hk
        · rename_i d hd
          have hoj' : all.toArray[j]? = some oj := by simpa using hoj
          split at hk
          · rename_i b hb
            have hy := yielded_bool he hoj' hd hb
            cases b with
            | true =>
              rw [if_pos (by simp [Region.wanted, hg, hy])]
              exact hrun (hk.1 rfl)
            | false =>
              rw [if_neg (by simp [Region.wanted, hg, hy])]
              exact hskip (hk.2 rfl)
          · rename_i b hb
            have hy := yielded_bool he hoj' hd hb
            cases b with
            | true =>
              rw [if_neg (by simp [Region.wanted, hg, hy])]
              exact hskip (hk.1 rfl)
            | false =>
              rw [if_pos (by simp [Region.wanted, hg, hy])]
              exact hrun (hk.2 rfl)
          · rename_i hb
            have hy := yielded_none he hoj' hd hb
            rw [if_neg (by simp [Region.wanted, hg, hy])]
            exact hskip hk
          · cases hk
        · cases hk
      · cases hk

omit hT in
theorem loop_ok {ρ : Option Nat} {md : Nat → Bool} {c : Code} (hc : ∀ (env : List V) (h : Heap) (Q : X → List V → Heap → Prop) (φ : Phi) (μ : Mu) (B : Nat) (w : World) (a : Act), RoOk ρ w → B ≤ w.heap.size → Rel φ μ B h w → EnvR φ μ env a.tmps → wpC P T md c env h Q → c.wpIn (fen ρ) 0 P (PostC φ μ B w a.defers Q) a w)
    (env0 : List V) (h0 : Heap) (Q : X → List V → Heap → Prop) (φ0 : Phi) (μ0 : Mu) (B : Nat) (w0 : World) (a0 : Act) (hro0 : RoOk ρ w0) (hB0 : B ≤ w0.heap.size) (r0 : Rel φ0 μ0 B h0 w0) (he0 : EnvR φ0 μ0 env0 a0.tmps) (hk : LoopP P T c (wpC P T md c) h0.length env0 h0 Q) :
      ∀ (b : Frame) (k : List Item) (cs : List Frame), b.roundOf = ρ → ∃ e a' w', PostC φ0 μ0 B w0 a0.defers Q e a' w' ∧ ArrivesIn (Machine.fenced P (fen ρ)) P (lone (b.atR a0 (.code c :: .inLoop c :: k)) cs w0) b k cs e a' w' := by
  refine hk.lfp (fun env h => ∀ (φ : Phi) (μ : Mu) (w : World) (a : Act), Ext φ0 μ0 w0 φ μ → Fr μ0 w0 w → Rel φ μ B h w → EnvR φ μ env a.tmps → Mk μ w0 w a0.defers a.defers → ∀ (b : Frame) (k : List Item) (cs : List Frame), b.roundOf = ρ →
    ∃ e a' w', PostC φ0 μ0 B w0 a0.defers Q e a' w' ∧ ArrivesIn (Machine.fenced P (fen ρ)) P (lone (b.atR a (.code c :: .inLoop c :: k)) cs w) b k cs e a' w') ?_ φ0 μ0 w0 a0 (Ext.refl _ _ _) (Fr.refl _ _) r0 he0 (Mk.refl _ _ _ _)
  intro env1 h1 env2 h2 hforg hbody φ μ w a hx hf r he hd b k cs hb
  obtain ⟨μ2, hx2, r2, he2, hless⟩ := forg_ok (m0 := h0.length) (fun i b x hi => (r0.dom i b x hi).1) hx r he hforg
  obtain ⟨e, a1, w1, hp, harr⟩ := hc env2 h2 _ φ μ2 B w a (hro0.fr hf) (Nat.le_trans hB0 hf.size) r2 he2 hbody b (.inLoop c :: k) cs hb trivial (room_wide _)
  obtain ⟨x, env', h', φ', μ', rfl, hq, he', r', hx', hf', hd'⟩ := hp
  have hxx := hx2.trans hf.size hx'
  have hff := hf.trans hx2 hf'
  have hmm := (hd.less hless).trans hf.size hx' hf' hd'
  cases x with
  | normal =>
    obtain ⟨e2, a2, w2, hp2, harr2⟩ := hq φ' μ' w1 a1 hxx hff r' he' hmm b k cs hb
    exact ⟨e2, a2, w2, hp2, .of_steps (StepsIn.trans harr (.one (fenced_calm (n := 0) trivial (room_wide _) rfl) stepR_inLoop)) harr2⟩
  | exit id => exact ⟨_, a1, w1, ⟨.exit id, env', h', φ', μ', rfl, hq, he', r', hxx, hff, hmm⟩, .pass (x := .inLoop c) rfl (fun _ _ => .inl (by simp [X.toExit])) harr⟩
  | ret => exact ⟨_, a1, w1, ⟨.ret, env', h', φ', μ', rfl, hq, he', r', hxx, hff, hmm⟩, .pass (x := .inLoop c) rfl (fun _ _ => .inl (by simp [X.toExit])) harr⟩

theorem wpC_ok (ρ : Option Nat) {md : Nat → Bool} (c : Code) : ∀ (env : List V) (h : Heap) (Q : X → List V → Heap → Prop) (φ : Phi) (μ : Mu) (B : Nat) (w : World) (a : Act), RoOk ρ w → B ≤ w.heap.size → Rel φ μ B h w → EnvR φ μ env a.tmps → wpC P T md c env h Q → c.wpIn (fen ρ) 0 P (PostC φ μ B w a.defers Q) a w := by
  induction c with
  | skip => intro env h Q φ μ B w a _ _ r he hk; exact wpIn_skip ⟨.normal, env, h, φ, μ, rfl, hk, he, r, Ext.refl _ _ _, Fr.refl _ _, Mk.refl _ _ _ _⟩
  | region id ops draw =>
    intro env h Q φ μ B w a hro hB r he hk
    replace hk : forceL ops.toList fun l => cond draw (DrawP P T l env h (Q .normal)) (regP P T (md id) l l env h (Q .normal)) := hk
    rw [forceL_eq] at hk
    cases draw with
    | true =>
      have := DrawP.run hk ρ φ μ B w a id hro hB r he
      simp only [Array.toArray_toList] at this
      exact wpIn_mono this fun e a' w' ⟨env', h', φ', μ', he, h1, h2, h3, h4, h5, h6⟩ => ⟨.normal, env', h', φ', μ', he, h1, h2, h3, h4, h5, Mk.of_eq h6⟩
    | false =>
      refine wpIn_region_list ?_
      have := regP_ok (ρ := ρ) hT ops.toList (PostC φ μ B w a.defers Q) ops.toList env h φ μ B w a hB r he hk (fun env' h' φ' μ' a' w' k1 k2 k3 k4 k5 k6 => ⟨.normal, env', h', φ', μ', rfl, k1, k2, k3, k4, k5, Mk.of_eq k6⟩)
      simpa using this
  | seq x y ihx ihy =>
    intro env h Q φ μ B w a hro hB r he hk
    refine wpIn_seq (wpIn_mono (ihx env h _ φ μ B w a hro hB r he hk) ?_)
    rintro e a' w' ⟨x, env', h', φ', μ', rfl, hq, he', r', hx, hf, hd⟩
    cases x with
    | normal =>
      have := ihy env' h' Q φ' μ' B w' a' (hro.fr hf) (Nat.le_trans hB hf.size) r' he' hq
      exact wpIn_mono this fun _ _ _ hp => hp.trans hx hf hd
    | exit id => exact ⟨.exit id, env', h', φ', μ', rfl, hq, he', r', hx, hf, hd⟩
    | ret => exact ⟨.ret, env', h', φ', μ', rfl, hq, he', r', hx, hf, hd⟩
  | cond c x y ihx ihy =>
    intro env h Q φ μ B w a hro hB r he hk
    replace hk : (match evE env c with | .bool t => BCase t (wpC P T md x env h Q) (wpC P T md y env h Q) | _ => False) := hk
    have hc := he.eval r c
    generalize evE env c = vc at hk hc
    generalize hcc : a.eval c = cc at hc
    split at hk
    · rename_i b
      cases hc
      refine wpIn_cond hcc ?_
      cases b with
      | true => exact ihx env h Q φ μ B w a hro hB r he (hk.1 rfl)
      | false => exact ihy env h Q φ μ B w a hro hB r he (hk.2 rfl)
    · cases hk
  | block id c ih =>
    intro env h Q φ μ B w a hro hB r he hk
    refine wpIn_block (wpIn_mono (ih env h _ φ μ B w a hro hB r he hk) ?_)
    rintro e a' w' ⟨x, env', h', φ', μ', rfl, hq, he', r', hx, hf, hd⟩
    cases x with
    | normal => exact ⟨.normal, env', h', φ', μ', rfl, hq, he', r', hx, hf, hd⟩
    | exit i =>
      simp only [X.toExit, Exit.inBlock]
      by_cases hi : i = id
      · rw [if_pos hi]
        have : (i == id) = true := by simpa using hi
        simp only [this, cond_true] at hq
        exact ⟨.normal, env', h', φ', μ', rfl, hq, he', r', hx, hf, hd⟩
      · rw [if_neg hi]
        have : (i == id) = false := by simpa using hi
        simp only [this, cond_false] at hq
        exact ⟨.exit i, env', h', φ', μ', rfl, hq, he', r', hx, hf, hd⟩
    | ret => exact ⟨.ret, env', h', φ', μ', rfl, hq, he', r', hx, hf, hd⟩
  | loop c ih =>
    intro env h Q φ μ B w a hro hB r he hk b k cs hb _ _
    obtain ⟨e, a', w', hp, harr⟩ := loop_ok (T := T) (md := md) (c := c) ih env h Q φ μ B w a hro hB r he hk b k cs hb
    exact ⟨e, a', w', hp, .of_steps (.one (fenced_calm (n := 0) trivial (room_wide _) rfl) stepR_loop) harr⟩
  | exit id => intro env h Q φ μ B w a _ _ r he hk; exact wpIn_exit ⟨.exit id, env, h, φ, μ, rfl, hk, he, r, Ext.refl _ _ _, Fr.refl _ _, Mk.refl _ _ _ _⟩
  | ret => intro env h Q φ μ B w a _ _ r he hk; exact wpIn_ret ⟨.ret, env, h, φ, μ, rfl, hk, he, r, Ext.refl _ _ _, Fr.refl _ _, Mk.refl _ _ _ _⟩
  | rangeFunc f ps assign body => intro env h Q φ μ B w a hro hB r he hk; exact RangeP.run hk ρ φ μ B w a hro hB r he
  | scope => intro env h Q φ μ B w a _ _ r he hk; cases hk
  | label => intro env h Q φ μ B w a _ _ r he hk; cases hk
  | goto => intro env h Q φ μ B w a _ _ r he hk; cases hk
  | refuse => intro env h Q φ μ B w a _ _ r he hk; cases hk
end

/-! ### Functions -/
def resV1 (T : Nat → Option TI) (env : List V) (h : Heap) : ResultVar → Option V
  | .tmp t => some (env.getD t .undef)
  | .cell x t =>
    match env.getD x .undef with
    | .ptr i q => (match hget h i with | some (.cells _ cs) => loadV T t cs q | _ => none)
    | _ => none

def retP (T : Nat → Option TI) (rs : List ResultVar) (env : List V) (h : Heap) (K : V → Heap → Prop) : Prop :=
  match rs with
  | [r] => (match resV1 T env h r with | some v => v.force fun v => K v h | none => False)
  | [] => K (.tup []) h
  | [r, s] => (match resV1 T env h r, resV1 T env h s with | some v, some u => v.force fun v => u.force fun u => K (.tup [v, u]) h | _, _ => False)
  | [r, s, t] => (match resV1 T env h r, resV1 T env h s, resV1 T env h t with | some v, some u, some x => v.force fun v => u.force fun u => x.force fun x => K (.tup [v, u, x]) h | _, _, _ => False)
  | _ => False

def bodyP (P : Program) (T : Nat → Option TI) (md : Nat → Bool) (fn : Func) (c : Code) (args : List V) (h : Heap) (K : V → Heap → Prop) : Prop :=
  forceL (args ++ List.replicate (fn.ntmps - args.length) .undef) fun env =>
    wpC P T md c env h fun x env' h' => match x with | .exit _ => False | _ => retP T fn.results.toList env' h' K

def resM (tmps : Array Value) : ResultVar → Go.Sem Value
  | .tmp t => pure (tmps.getD t Go.undef)
  | .cell a t => do loadVar t (← asAddr (tmps.getD a Go.undef))
theorem results_eq (fn : Func) (tmps : Array Value) : results fn tmps = (do
    let vs ← fn.results.mapM (resM tmps)
    pure (if h : vs.size = 1 then vs[0] else .tuple vs)) := rfl

theorem resV1_ok {P : Program} {T : Nat → Option TI} (hT : TOk P T) {φ : Phi} {μ : Mu} {B : Nat} {h : Heap} {w : World} {env : List V} {tmps : Array Value} (r : Rel φ μ B h w) (he : EnvR φ μ env tmps) {x : ResultVar} {v : V} (hv : resV1 T env h x = some v) :
    ∃ cv, (resM tmps x).run P w = .ok cv w ∧ Rv φ μ v cv := by
  cases x with
  | tmp t =>
    simp only [resV1, Option.some.injEq] at hv
    subst hv
    exact ⟨_, rfl, he.rv t⟩
  | cell a t =>
    simp only [resV1] at hv
    have ha := he.rv a
    generalize env.getD a .undef = va at hv ha
    generalize hca : tmps.getD a Go.undef = ca at ha
    split at hv
    · rename_i i q
      split at hv
      · rename_i e cs hh
        cases ha; rename_i b hb
        obtain ⟨c, h1, h23⟩ := hget_cells r hh hb
        obtain ⟨h2, h3⟩ := h23
        obtain ⟨cv, g1, g2⟩ := run_load_ok hT (off := 0) (c := fun j => c.getD j Go.undef) hv (fun j hj => by
          have : j < c.size := by omega
          simp [World.cell?, h1, this]) h3 (w := w) (b := b)
        rw [Nat.zero_add] at g1
        refine ⟨cv, ?_, g2⟩
        simp only [Instr.loadAt, Instr.sureAddr, Sem.run_bind, Sem.run_pure, Result.andThen_ok] at g1
        simp only [resM, hca, asAddr, Sem.run_bind, Sem.run_pure, Result.andThen_ok, g1]
      · cases hv
    · cases hv

theorem retP_ok {P : Program} {T : Nat → Option TI} (hT : TOk P T) {φ : Phi} {μ : Mu} {B : Nat} {h : Heap} {w : World} {env : List V} {tmps : Array Value} (r : Rel φ μ B h w) (he : EnvR φ μ env tmps) {fn : Func} {K : V → Heap → Prop} (hk : retP T fn.results.toList env h K) :
    ∃ v cv, (results fn tmps).run P w = .ok cv w ∧ K v h ∧ Rv φ μ v cv := by
  unfold retP at hk
  have hl : fn.results = fn.results.toList.toArray := by simp
  rw [results_eq, hl]
  generalize fn.results.toList = rs at hk
  split at hk
  · rename_i x
    split at hk
    · rename_i v hv
      rw [V.force_eq] at hk
      obtain ⟨cv, g1, g2⟩ := resV1_ok hT r he hv
      exact ⟨v, cv, by simp [g1], hk, g2⟩
    · cases hk
  · exact ⟨_, .tuple #[], by simp, hk, .tup _ _ _ rfl (fun j hj => by simp at hj)⟩
  · rename_i x y
    split at hk
    · rename_i v u hv hu
      simp only [V.force_eq] at hk
      obtain ⟨cv, g1, g2⟩ := resV1_ok hT r he hv
      obtain ⟨cu, g3, g4⟩ := resV1_ok hT r he hu
      refine ⟨_, .tuple #[cv, cu], by simp [g1, g3], hk, .tup _ _ _ rfl (fun j hj => ?_)⟩
      match j, hj with
      | 0, _ => exact g2
      | 1, _ => exact g4
    · cases hk
  · rename_i x y z
    split at hk
    · rename_i v u t hv hu ht
      simp only [V.force_eq] at hk
      obtain ⟨cv, g1, g2⟩ := resV1_ok hT r he hv
      obtain ⟨cu, g3, g4⟩ := resV1_ok hT r he hu
      obtain ⟨ct, g5, g6⟩ := resV1_ok hT r he ht
      refine ⟨_, .tuple #[cv, cu, ct], by simp [g1, g3, g5], hk, .tup _ _ _ rfl (fun j hj => ?_)⟩
      match j, hj with
      | 0, _ => exact g2
      | 1, _ => exact g4
      | 2, _ => exact g6
    · cases hk
  · cases hk

/-- The block of a mark is shut: nothing that is known speaks of it. -/
theorem Rel.shut {φ : Phi} {μ : Mu} {B : Nat} {h : Heap} {w : World} (r : Rel φ μ B h w) {b : Nat} {o : Obj} {ds : Option (List Deferred)} (hb : w.heap[b]? = some (.deferred ds)) (hm : ∀ i x, μ i ≠ some (b, x)) : Rel φ μ B h (w.putObj b o) := by
  refine ⟨r.glob, fun c q v hv => ?_, fun c n hn => ?_, r.inj, fun i c x hi => ?_, fun i k hk => ?_⟩
  · have h1 := r.cell c q v hv
    by_cases hc : c = b
    · subst hc
      simp only [World.cell?, hb] at h1
      cases h1
    · rw [← h1]
      exact World.cell?_of_block (World.putObj_heap_other hc)
  · obtain ⟨cs, e, fr, h1, h2⟩ := r.size c n hn
    by_cases hc : c = b
    · subst hc
      rw [hb] at h1; cases h1
    · exact ⟨cs, e, fr, (World.putObj_heap_other hc).trans h1, h2⟩
  · have := r.dom i c x hi
    rw [World.putObj_size]
    exact this
  · obtain ⟨c, x, h1, h2⟩ := r.blk i k hk
    have hc : c ≠ b := fun e => hm i x (e ▸ h1)
    exact ⟨c, x, h1, h2.mono φ.le_refl (Mu.le_refl _) (World.putObj_heap_other hc) (fun _ _ h => h)⟩

theorem Fr.shut {μ : Mu} {w0 w : World} (f : Fr μ w0 w) {b : Nat} {o : Obj} {ds : Option (List Deferred)} (h0 : w0.heap.size ≤ b) (hb : w.heap[b]? = some (.deferred ds)) : Fr μ w0 (w.putObj b o) := by
  refine ⟨f.os, f.tape, f.output, by rw [World.putObj_size]; exact f.size, fun k hk hn => (World.putObj_heap_other (by omega)).trans (f.block k hk hn), fun k r hk => ?_, f.mono⟩
  obtain ⟨r', h'⟩ := f.loops k r hk
  have hne : k ≠ b := fun e => by subst e; rw [hb] at h'; cases h'
  exact ⟨r', (World.putObj_heap_other hne).trans h'⟩

theorem leaves_marks {P : Program} {fn : Func} {tmps : Array Value} {R : Ending → World → Prop} {φ : Phi} {μ μ' : Mu} {B : Nat} {h : Heap} {w0 : World} (fin : ∀ w', Rel φ μ' B h w' → Fr μ w0 w' → ∃ v, (results fn tmps).run P w' = .ok v w' ∧ R (.returned v) w') :
    ∀ (ms : List Nat) (w : World), Rel φ μ' B h w → Fr μ w0 w → ms.Nodup → (∀ r ∈ ms, w0.heap.size ≤ r ∧ w.heap[r]? = some (.deferred (some [])) ∧ ∀ i x, μ' i ≠ some (r, x)) → LeavesInM Fence.wide 0 P fn tmps R (ms.map markOf) .returning w
  | [], w, r, f, _, _ => by
    obtain ⟨v, h1, h2⟩ := fin w r f
    exact ⟨v, h1, h2⟩
  | m :: ms, w, r, f, hn, hm => by
    obtain ⟨h1, h2, h3⟩ := hm m (by simp)
    rw [List.nodup_cons] at hn
    refine ⟨by simp, .inl ⟨m, _, rfl, run_takeDeferred h2, ?_⟩⟩
    refine leaves_marks fin ms _ (r.shut h2 h3) (f.shut h1 h2) hn.2 fun q hq => ?_
    have hne : q ≠ m := fun e => hn.1 (e ▸ hq)
    have := hm q (by simp [hq])
    exact ⟨this.1, (World.putObj_heap_other hne).trans this.2.1, this.2.2⟩

theorem envR_start {φ : Phi} {μ : Mu} {args : List V} {cargs : Array Value} (ha : RvL φ μ args cargs) (n : Nat) : EnvR φ μ (args ++ List.replicate (n - args.length) .undef) (cargs ++ Array.replicate (n - cargs.size) Go.undef) := by
  refine ⟨by simp [ha.1], fun j => ?_⟩
  have l1 := ha.1
  by_cases hj : j < args.length
  · have e1 : (args ++ List.replicate (n - args.length) V.undef).getD j V.undef = args.getD j V.undef := by
      rw [List.getD_eq_getElem?_getD, List.getElem?_append_left hj, ← List.getD_eq_getElem?_getD]
    have e2 : (cargs ++ Array.replicate (n - cargs.size) Go.undef).getD j Go.undef = cargs.getD j Go.undef := by
      have : j < cargs.size := by omega
      simp [Array.getD_eq_getD_getElem?, Array.getElem?_append, this]
    rw [e1, e2]; exact ha.2 j
  · have e1 : (args ++ List.replicate (n - args.length) V.undef).getD j .undef = .undef := by
      rw [List.getD_eq_getElem?_getD, List.getElem?_append_right (Nat.le_of_not_lt hj)]
      simp only [List.getElem?_replicate]
      split <;> rfl
    rw [e1]; exact .undef _ _

theorem sem_body {P : Program} {T : Nat → Option TI} (hT : TOk P T) {g : FuncId} {fn : Func} {c : Code} {K : V → Heap → Prop} (hf : P.funcs[g]? = some fn) (hb : fn.body = some c) {φ : Phi} {μ : Mu} {B : Nat} {w : World} {cargs : Array Value}
    (hk : c.wpIn (fen none) 0 P (PostC φ μ B w [] fun x env' h' => match x with | .exit _ => False | _ => retP T fn.results.toList env' h' K) { tmps := cargs ++ Array.replicate (fn.ntmps - cargs.size) Go.undef, defers := [] } w) :
    Calls P g cargs w (Ret φ μ B w K) := by
  refine (callsIn_wide (n := 0)).1 (callsIn_of_wp_marks hf hb trivial (wpIn_mono hk ?_))
  rintro e a' w' ⟨x, env', h', φ', μ', rfl, hq, he', r', hx, hf', hd⟩
  obtain ⟨ms, hms, hn, hm⟩ := hd
  rw [List.append_nil] at hms
  have fin : retP T fn.results.toList env' h' K → LeavesInM Fence.wide 0 P fn a'.tmps (fun e w' => ∃ v h' φ' μ' cv, e = .returned cv ∧ K v h' ∧ Rv φ' μ' v cv ∧ Rel φ' μ' B h' w' ∧ Ext φ μ w φ' μ' ∧ Fr μ w w') a'.defers .returning w' := fun hr => by
    rw [hms]
    refine leaves_marks (fun w2 r2 f2 => ?_) ms w' r' hf' hn hm
    obtain ⟨v, cv, g1, g2, g3⟩ := retP_ok hT r2 he' hr
    exact ⟨cv, g1, v, h', φ', μ', cv, rfl, g2, g3, r2, hx, f2⟩
  cases x with
  | normal => exact fin hq
  | exit id => cases hq
  | ret => exact fin hq

theorem callFunc_enter {P : Program} {g : FuncId} {args : Array Value} {w : World} (h : ∃ fn, P.funcs[g]? = some fn ∧ fn.body.isSome = true ∧ (fn.name == "runtime.NumGoroutine") = false) : (callFunc g args).run P w = .ok (.enter g args) w := by
  obtain ⟨fn, h1, h2, h3⟩ := h
  have h4 : fn.body.isNone = false := by cases hb : fn.body <;> simp_all
  simp only [callFunc, Sem.run_bind, run_program, Result.andThen_ok, h1, h3, h4, Bool.false_eq_true, if_false, Sem.run_pure]

theorem Sem.of_body {P : Program} {T : Nat → Option TI} (hT : TOk P T) (md : Nat → Bool) {g : FuncId} {fn : Func} {c : Code} {args : List V} {h : Heap} {K : V → Heap → Prop} (hf : P.funcs[g]? = some fn) (hb : fn.body = some c) (hn : (fn.name == "runtime.NumGoroutine") = false)
    (hk : bodyP P T md fn c args h K) : Sem P g args h K := by
  refine ⟨fun φ μ B w cargs hB r ha => .inl ⟨callFunc_enter ⟨fn, hf, by rw [hb]; rfl, hn⟩, ?_⟩⟩
  unfold bodyP at hk
  rw [forceL_eq] at hk
  exact sem_body hT hf hb (wpC_ok hT none c _ h _ φ μ B w { tmps := cargs ++ Array.replicate (fn.ntmps - cargs.size) Go.undef, defers := [] } (RoOk.none w) hB r (envR_start ha _) hk)

end Go.Cx
namespace Go.Cx
open Go.RowKit

theorem RoundP.mono {P : Program} {id : Nat} {args : List V} {h : Heap} {K K' : V → Heap → Prop} (hK : ∀ v h', K v h' → K' v h') (k : RoundP P id args h K) : RoundP P id args h K' :=
  ⟨fun φ μ B w cargs b hB r ha hb => let ⟨f, tmps, as, bo, hy, hr⟩ := k.run φ μ B w cargs b hB r ha hb; ⟨f, tmps, as, bo, hy, hr.mono fun _ _ hq => hq.mono hK⟩⟩

theorem cond_mono {b : Bool} {X X' : Prop} (h : X → X') (hk : cond b X False) : cond b X' False := by
  cases b
  · exact hk
  · exact h hk
theorem opN_mono {P : Program} {T : Nat → Option TI} {md : Bool} {ev : Operand → V} {h : Heap} {K K' : V → Heap → Prop} (hK : ∀ v h', K v h' → K' v h') (op : Op) (hk : opN P T md ev h K op) : opN P T md ev h K' op := by
  unfold opN at hk ⊢
  rw [natL_eq] at hk ⊢
  split at hk
  · rw [forceWB_eq] at hk ⊢
    exact cond_mono (hK _ _) hk
  · exact hk.elim
theorem nextP_mono {x : V} {h : Heap} {K K' : V → Heap → Prop} (hK : ∀ v h', K v h' → K' v h') (hk : nextP x h K) : nextP x h K' := by
  unfold nextP at hk ⊢
  split at hk
  · split at hk
    · split at hk
      · refine cond_mono (fun hk => ?_) hk
        split at hk
        · exact hK _ _ hk
        · exact fun e he => hK _ _ (hk e he)
      · exact hk.elim
    · exact hk.elim
  · exact hk.elim

theorem opY_mono {P : Program} {T : Nat → Option TI} {md : Bool} {ev : Operand → V} {h : Heap} {K K' : V → Heap → Prop} (hK : ∀ v h', K v h' → K' v h') (op : Op) (hk : opY P T md ev h K op) : opY P T md ev h K' op := by
  cases op
  case call c =>
    simp only [opY] at hk ⊢
    split at hk
    · split at hk
      · simp only [fl2_eq] at hk ⊢
        exact hk.mono hK
      · simp only [fl2_eq] at hk ⊢
        exact hk.mono hK
      · exact hk.elim
    · exact hk.elim
    · cases hap : apG ev c with
      | true =>
        rw [hap] at hk
        obtain ⟨v, wr, acc, nw, h1, h2⟩ := hk
        exact ⟨v, wr, acc, nw, h1, hK _ _ h2⟩
      | false => rw [hap] at hk; exact opN_mono hK _ hk
  case next it b =>
    cases b
    · exact nextP_mono hK hk
    · exact opN_mono hK _ hk
  case indexAddr t x i =>
    simp only [opY] at hk ⊢
    split at hk
    · obtain ⟨cs, h1, h2⟩ := hk
      exact ⟨cs, h1, cond_mono (hK _ _) h2⟩
    · exact opN_mono hK _ hk
  case lookup t m k ok =>
    simp only [opY] at hk ⊢
    obtain ⟨v, acc, h1, h2⟩ := hk
    exact ⟨v, acc, h1, hK _ _ h2⟩
  case load t x =>
    simp only [opY] at hk ⊢
    split at hk
    · obtain ⟨v, h1, h2⟩ := hk
      exact ⟨v, h1, hK _ _ h2⟩
    · exact opN_mono hK _ hk
  case slice t x lo hi mx =>
    simp only [opY] at hk ⊢
    cases hs : slG (ev x) mx with
    | true =>
      rw [hs] at hk
      obtain ⟨v, wr, acc, nw, h1, h2⟩ := hk
      exact ⟨v, wr, acc, nw, h1, hK _ _ h2⟩
    | false => rw [hs] at hk; exact opN_mono hK _ hk
  all_goals (simp only [opY] at hk ⊢; exact opN_mono hK _ hk)

theorem regP_mono {P : Program} {T : Nat → Option TI} {md : Bool} {all : List Oper} {K K' : List V → Heap → Prop} (hK : ∀ e h, K e h → K' e h) : ∀ (l : List Oper) (env : List V) (h : Heap), regP P T md all l env h K → regP P T md all l env h K'
  | [], env, h, hk => hK _ _ hk
  | o :: rest, env, h, hk => by
    rw [regP_cons] at hk ⊢
    unfold stepP at hk ⊢
    refine guardN_mono (fun e ho => opY_mono (fun v h' hv => ?_) o.op ho) (fun e hs => ?_) hk
    · simp only [V.force_eq, forceL_eq, forceH_eq] at hv ⊢
      exact regP_mono hK rest _ _ hv
    · simp only [forceL_eq] at hs ⊢
      exact regP_mono hK rest _ _ hs

theorem wpC_mono {P : Program} {T : Nat → Option TI} {md : Nat → Bool} (c : Code) : ∀ (env : List V) (h : Heap) (Q Q' : X → List V → Heap → Prop), (∀ x e h, Q x e h → Q' x e h) → wpC P T md c env h Q → wpC P T md c env h Q' := by
  induction c with
  | skip => intro env h Q Q' hQ hk; exact hQ _ _ _ hk
  | region id ops draw =>
    intro env h Q Q' hQ hk
    replace hk : forceL ops.toList fun l => cond draw (DrawP P T l env h (Q .normal)) (regP P T (md id) l l env h (Q .normal)) := hk
    show forceL ops.toList fun l => cond draw (DrawP P T l env h (Q' .normal)) (regP P T (md id) l l env h (Q' .normal))
    rw [forceL_eq] at hk ⊢
    cases draw with
    | true => exact ⟨fun ρ φ μ B w a id hro hB r he => wpIn_mono (DrawP.run hk ρ φ μ B w a id hro hB r he) fun e a' w' ⟨env', h', φ', μ', e1, e2, rest⟩ => ⟨env', h', φ', μ', e1, hQ _ _ _ e2, rest⟩⟩
    | false => exact regP_mono (fun e h hq => hQ _ _ _ hq) _ _ _ hk
  | seq x y ihx ihy =>
    intro env h Q Q' hQ hk
    refine ihx env h _ _ (fun x e h hq => ?_) hk
    cases x with
    | normal => exact ihy e h Q Q' hQ hq
    | exit id => exact hQ _ _ _ hq
    | ret => exact hQ _ _ _ hq
  | cond c x y ihx ihy =>
    intro env h Q Q' hQ hk
    replace hk : (match evE env c with | .bool t => BCase t (wpC P T md x env h Q) (wpC P T md y env h Q) | _ => False) := hk
    show (match evE env c with | .bool t => BCase t (wpC P T md x env h Q') (wpC P T md y env h Q') | _ => False)
    split at hk
    · exact ⟨fun e => ihx env h Q Q' hQ (hk.1 e), fun e => ihy env h Q Q' hQ (hk.2 e)⟩
    · exact hk.elim
  | block id c ih =>
    intro env h Q Q' hQ hk
    refine ih env h _ _ (fun x e h hq => ?_) hk
    cases x with
    | normal => exact hQ _ _ _ hq
    | exit i =>
      simp only at hq ⊢
      cases hi : (i == id) with
      | true => rw [hi] at hq; exact hQ _ _ _ hq
      | false => rw [hi] at hq; exact hQ _ _ _ hq
    | ret => exact hQ _ _ _ hq
  | loop c ih =>
    intro env h Q Q' hQ hk
    refine ⟨fun R hR => LoopP.lfp hk R fun env1 h1 env2 h2 hf hb => hR env1 h1 env2 h2 hf (ih env2 h2 _ _ (fun x e h hq => ?_) hb)⟩
    cases x with
    | normal => exact hq
    | exit id => exact hQ _ _ _ hq
    | ret => exact hQ _ _ _ hq
  | exit id => intro env h Q Q' hQ hk; exact hQ _ _ _ hk
  | ret => intro env h Q Q' hQ hk; exact hQ _ _ _ hk
  | rangeFunc => intro env h Q Q' hQ hk; exact ⟨fun ρ φ μ B w a hro hB r he => wpIn_mono (RangeP.run hk ρ φ μ B w a hro hB r he) fun _ _ _ hp => hp.mono hQ⟩
  | scope => intro env h Q Q' hQ hk; cases hk
  | label => intro env h Q Q' hQ hk; cases hk
  | goto => intro env h Q Q' hQ hk; cases hk
  | refuse => intro env h Q Q' hQ hk; cases hk

theorem forgE_refl : ∀ (e : List V), forgE e e
  | [] => trivial
  | _ :: xs => ⟨.inl rfl, forgE_refl xs⟩

/-- A loop with an invariant and a measure. -/
theorem LoopP.inv {P : Program} {T : Nat → Option TI} {md : Nat → Bool} {c : Code} {body : WP} {m0 : Nat} {env : List V} {h : Heap} {Q : X → List V → Heap → Prop} (I : Nat → List V → Heap → Prop) (n : Nat) (start : ∃ env' h', Forg m0 env h env' h' ∧ I n env' h')
    (round : ∀ k env' h', I k env' h' → body env' h' fun x env1 h1 => match x with | .normal => ∃ k' env2 h2, k' < k ∧ Forg m0 env1 h1 env2 h2 ∧ I k' env2 h2 | x => Q x env1 h1) (hb : body = wpC P T md c := by rfl) : LoopP P T c body m0 env h Q := by
  subst hb
  refine ⟨fun R hR => ?_⟩
  have key : ∀ k env1 h1, (∃ env2 h2, Forg m0 env1 h1 env2 h2 ∧ I k env2 h2) → R env1 h1 := by
    intro k
    induction k using Nat.strongRecOn with
    | _ k ih =>
      rintro env1 h1 ⟨env2, h2, hf, hi⟩
      refine hR env1 h1 env2 h2 hf (wpC_mono c _ _ _ _ (fun x e h hq => ?_) (round k env2 h2 hi))
      cases x with
      | normal =>
        obtain ⟨k', env3, h3, hlt, hf', hi'⟩ := hq
        exact ih k' hlt e h ⟨env3, h3, hf', hi'⟩
      | exit id => exact hq
      | ret => exact hq
  exact key n env h start

/-- One round walked out. -/
theorem LoopP.unroll {P : Program} {T : Nat → Option TI} {md : Nat → Bool} {c : Code} {body : WP} {m0 : Nat} {env : List V} {h : Heap} {Q : X → List V → Heap → Prop} (hk : body env h fun x env1 h1 => match x with | .normal => LoopP P T c body m0 env1 h1 Q | x => Q x env1 h1) (hb : body = wpC P T md c := by rfl) : LoopP P T c body m0 env h Q := by
  subst hb
  refine ⟨fun R hR => hR env h env h (.same (forgE_refl _) rfl) (wpC_mono c _ _ _ _ (fun x e h hq => ?_) hk)⟩
  cases x with
  | normal => exact LoopP.lfp hq R hR
  | exit id => exact hq
  | ret => exact hq

/-! ### Functions that only compute -/
def allFree (vs : List V) : Bool := vs.all V.free

/-- Called with these, it hands back that, and leaves all as it was. -/
structure Fn (P : Program) (g : FuncId) (args : List V) (v : V) : Prop where
  free : allFree args = true
  vfree : v.free = true
  run : Sem P g args [] fun v' _ => v' = v

theorem Rel.empty {φ : Phi} {μ : Mu} {B : Nat} {h : Heap} {w : World} (r : Rel φ μ B h w) : Rel φ mu0 B [] w :=
  ⟨r.glob, r.cell, r.size, fun i j b x y hi => (by cases hi), fun i b x hi => (by cases hi), fun i k hk => (by cases hk)⟩

theorem Fn.callH {P : Program} {g : FuncId} {args : List V} {v : V} (f : Fn P g args v) (φ : Phi) (μ : Mu) (B : Nat) (w : World) (cargs : Array Value) (h : Heap) (hB : B ≤ w.heap.size) (r : Rel φ μ B h w) (ha : RvL φ μ args cargs) :
    CallTo P g cargs w fun e w' => ∃ φ' cv, e = .returned cv ∧ Rv φ' μ v cv ∧ Rel φ' μ B h w' ∧ Ext φ μ w φ' μ ∧ Fr μ w w' := by
  have ha0 : RvL φ mu0 args cargs := ⟨ha.1, fun j => by
    by_cases hj : j < args.length
    · exact free_rv (ha.2 j) (all_getD f.free hj) mu0
    · have : args.getD j .undef = .undef := by simp [List.getElem?_eq_none (Nat.le_of_not_lt hj)]
      rw [this]; exact .undef _ _⟩
  refine (f.run.run φ mu0 B w cargs hB r.empty ha0).mono fun e w' ⟨v', h', φ', μ', cv, he, hv, hrv, hr, hx, hf⟩ => ?_
  subst hv
  have hsame : ∀ k, k < w.heap.size → w'.heap[k]? = w.heap[k]? := fun k hk => hf.block k hk (fun i x hi => by cases hi)
  have hr' : Rel φ' μ B h w' := by
    refine ⟨hr.glob, hr.cell, hr.size, r.inj, fun i b x hi => ?_, fun i k hk => ?_⟩
    · have := r.dom i b x hi; have := hf.size; exact ⟨by omega, by omega, by omega⟩
    · obtain ⟨b, x, h1, h2⟩ := r.blk i k hk
      have hb := (r.dom i b x h1).2.1
      refine ⟨b, x, h1, h2.mono hx.phi (Mu.le_refl _) (hsame b hb) (fun o u hu => ?_)⟩
      rcases hx.cells b o u hu with h' | h' | ⟨i, y, h'⟩
      · exact h'
      · omega
      · cases h'
  exact ⟨φ', cv, he, free_rv hrv f.vfree μ, hr', ⟨hx.phi, Mu.le_refl _, fun i b x hi => .inl ⟨_, hi⟩, fun b o v hv => by
    rcases hx.cells b o v hv with h' | h' | ⟨i, y, h'⟩
    · exact .inl h'
    · exact .inr (.inl h')
    · cases h'⟩, ⟨hf.os, hf.tape, hf.output, hf.size, fun k hk _ => hsame k hk, hf.loops, hf.mono⟩⟩

theorem Fn.sem {P : Program} {g : FuncId} {args : List V} {v : V} (f : Fn P g args v) (h : Heap) {K : V → Heap → Prop} (hk : K v h) : Sem P g args h K :=
  ⟨fun φ μ B w cargs hB r ha => (f.callH φ μ B w cargs h hB r ha).mono fun _ _ ⟨φ', cv, h1, h2, h3, h4, h5⟩ => ⟨v, h, φ', μ, cv, h1, hk, h2, h3, h4, h5⟩⟩

theorem Fn.of_body {P : Program} {T : Nat → Option TI} (hT : TOk P T) (md : Nat → Bool) {g : FuncId} {fn : Func} {c : Code} {args : List V} {v : V} (hf : P.funcs[g]? = some fn) (hb : fn.body = some c) (hn : (fn.name == "runtime.NumGoroutine") = false)
    (hfree : allFree args = true) (hv : v.free = true) (hk : bodyP P T md fn c args [] fun v' _ => v' = v) : Fn P g args v :=
  ⟨hfree, hv, Sem.of_body hT md hf hb hn hk⟩

/-- The function that stands for itself. -/
theorem Sem.noEscape {P : Program} {g : FuncId} {fn : Func} {v : V} {h : Heap} {K : V → Heap → Prop} (hf : P.funcs[g]? = some fn) (hb : fn.body = none) (hn : fn.name = "internal/abi.NoEscape") (hx : Extern.findNext fn = none) (hy : Extern.find fn = some Extern.AbiNoEscape.same) (hk : K v h) : Sem P g [v] h K := by
  refine ⟨fun φ μ B w cargs hB r ha => .inr ?_⟩
  have hs : cargs.size = 1 := by rw [← ha.1]; rfl
  have hc : cargs = #[cargs.getD 0 Go.undef] := by
    apply Array.ext
    · simp [hs]
    · intro i h1 h2
      have : i = 0 := by omega
      subst this
      simp [h1]
  refine ⟨cargs.getD 0 Go.undef, ?_, v, h, φ, μ, _, rfl, hk, ha.2 0, r, Ext.refl _ _ _, Fr.refl _ _⟩
  have hne : (fn.name == "runtime.NumGoroutine") = false := by rw [hn]; decide
  have hbn : fn.body.isNone = true := by rw [hb]; rfl
  rw [hc]
  have hm : ∀ m, (mark m).run P w = .ok () w := fun m => rfl
  have hne' : fn.name ≠ "runtime.NumGoroutine" := by rw [hn]; decide
  simp [callFunc, hf, hne', hb, hx, hy, hm, Lib.run_noEscape]
end Go.Cx
namespace Go.Cx
open Go.RowKit

/-! ### The same, said of the machine itself: it may be weakened anywhere -/
structure Wp (P : Program) (T : Nat → Option TI) (c : Code) (env : List V) (h : Heap) (Q : X → List V → Heap → Prop) : Prop where
  run : ∀ (ρ : Option Nat) (φ : Phi) (μ : Mu) (B : Nat) (w : World) (a : Act), RoOk ρ w → B ≤ w.heap.size → Rel φ μ B h w → EnvR φ μ env a.tmps → c.wpIn (fen ρ) 0 P (PostC φ μ B w a.defers Q) a w

theorem Wp.of {P : Program} {T : Nat → Option TI} {md : Nat → Bool} {env : List V} {h : Heap} {Q : X → List V → Heap → Prop} (hT : TOk P T) {c : Code} (hk : wpC P T md c env h Q) : Wp P T c env h Q :=
  ⟨fun ρ φ μ B w a hro hB r he => wpC_ok hT ρ c env h Q φ μ B w a hro hB r he hk⟩

/-! ### A loop's record -/
def putAll : List V → List Nat → List V → List V
  | env, p :: ps, v :: vs => putAll (env.set p v) ps vs
  | env, _, _ => env

theorem putAll_ok {φ : Phi} {μ : Mu} : ∀ (ps : List Nat) (vs : List V) (cs : List Value) (env : List V) (tmps : Array Value), EnvR φ μ env tmps → vs.length = cs.length → (∀ j, j < vs.length → Rv φ μ (vs.getD j .undef) (cs.getD j Go.undef)) →
    EnvR φ μ (putAll env ps vs) ((ps.zip cs).foldl (fun tmps p => tmps.setIfInBounds p.1 p.2) tmps)
  | [], _, _, env, tmps, he, _, _ => by simpa [putAll] using he
  | _ :: _, [], [], env, tmps, he, _, _ => by simpa [putAll] using he
  | _ :: _, [], _ :: _, _, _, _, hl, _ => by simp at hl
  | _ :: _, _ :: _, [], _, _, _, hl, _ => by simp at hl
  | p :: ps, v :: vs, c :: cs, env, tmps, he, hl, hv => by
    have h0 := hv 0 (by simp)
    simp only [List.getD_cons_zero] at h0
    have h1 := EnvR.put (a := { tmps := tmps, defers := [] }) he h0 (some p)
    simp only [Act.put] at h1
    simp only [putAll, List.zip_cons_cons, List.foldl_cons]
    exact putAll_ok ps vs cs _ _ h1 (by simpa using hl) (fun j hj => by have := hv (j + 1) (by simp; omega); simpa using this)

def lB (env : List V) (ps : List Nat) (assign body : Code) (st : LoopState) (pend : Option Code) : Option Blk := some (.loop env ps assign body st pend)

theorem Rel.drop {φ : Phi} {μ : Mu} {B : Nat} {h : Heap} {w : World} (r : Rel φ μ B h w) (i : Nat) : Rel φ μ B (h.set i none) w := by
  refine ⟨r.glob, r.cell, r.size, r.inj, fun j b x hj => by rw [List.length_set]; exact r.dom j b x hj, fun j k hk => ?_⟩
  rw [hget_set] at hk
  split at hk
  · cases hk
  · exact r.blk j k hk

theorem Rel.setLoop {φ : Phi} {μ : Mu} {B : Nat} {h : Heap} {w : World} (r : Rel φ μ B h w) {i b : Nat} {env : List V} {ps : List Nat} {as bo : Code} {st : LoopState} {pd : Option Code} (hi : hget h i = some (.loop env ps as bo st pd)) (hb : μ i = some (b, none)) {rec : Loop} (hr : w.heap[b]? = some (.loop rec)) (st' : LoopState) (pd' : Option Code) :
    Rel φ μ B (h.set i (some (.loop env ps as bo st' pd'))) (w.putObj b (.loop { rec with state := st', pending := pd' })) := by
  obtain ⟨b', x', hb', h0, fn, tmps, d, h1, h2, h3⟩ := r.blk i _ hi
  have hbb : b' = b := by rw [hb] at hb'; simp at hb'; exact hb'.1.symm
  subst hbb
  have hbl : b' < w.heap.size := (Array.getElem?_eq_some_iff.1 hr).1
  have hil : i < h.length := (r.dom i b' _ hb).1
  rw [hr] at h1
  simp only [Option.some.injEq, Obj.loop.injEq] at h1
  subst h1
  refine ⟨r.glob, fun c q v hv => ?_, fun c n hn => ?_, r.inj, fun j c p hj => ?_, fun j k hk => ?_⟩
  · have g1 := r.cell c q v hv
    have hc : c ≠ b' := fun e => by subst e; simp only [World.cell?, hr] at g1; cases g1
    rw [← g1]
    exact World.cell?_of_block (World.putObj_heap_other hc)
  · obtain ⟨cs, e, fr, g1, g2⟩ := r.size c n hn
    have hc : c ≠ b' := fun e' => by subst e'; rw [hr] at g1; cases g1
    exact ⟨cs, e, fr, (World.putObj_heap_other hc).trans g1, g2⟩
  · rw [World.putObj_size, List.length_set]; exact r.dom j c p hj
  · rw [hget_set] at hk
    split at hk
    · rename_i hij
      obtain ⟨rfl, _⟩ := hij
      simp only [Option.some.injEq] at hk
      subst hk
      exact ⟨b', none, hb, rfl, fn, tmps, d, World.putObj_heap_same hbl, h2, h3⟩
    · rename_i hij
      obtain ⟨c, p, hc, hk'⟩ := r.blk j k hk
      have hne : c ≠ b' := fun e => hij ⟨r.inj i j b' _ _ hb (e ▸ hc), hil⟩
      exact ⟨c, p, hc, hk'.mono φ.le_refl (Mu.le_refl _) (World.putObj_heap_other hne) (fun _ _ h => h)⟩

theorem Fr.setLoop {μ : Mu} {w : World} {i b : Nat} (hb : μ i = some (b, none)) {rec rec' : Loop} (hr : w.heap[b]? = some (.loop rec)) : Fr μ w (w.putObj b (.loop rec')) := by
  refine ⟨rfl, rfl, rfl, by rw [World.putObj_size]; exact Nat.le_refl _, fun k _ hn => World.putObj_heap_other (fun e => hn i none (e ▸ hb)), fun k r hk => ?_, Nat.le_refl _⟩
  by_cases hkb : k = b
  · subst hkb
    exact ⟨rec', World.putObj_heap_same (Array.getElem?_eq_some_iff.1 hr).1⟩
  · exact ⟨r, (World.putObj_heap_other hkb).trans hk⟩

theorem hget_loop {φ : Phi} {μ : Mu} {B : Nat} {h : Heap} {w : World} (r : Rel φ μ B h w) {i b : Nat} {env : List V} {ps : List Nat} {as bo : Code} {st : LoopState} {pd : Option Code} (hi : hget h i = some (.loop env ps as bo st pd)) (hb : μ i = some (b, none)) :
    ∃ (fn : FuncId) (tmps : Array Value) (d : Nat), w.heap[b]? = some (.loop { state := st, pending := pd, fn := fn, tmps := tmps, params := ps.toArray, assign := as, body := bo, defers := d }) ∧ EnvR φ μ env tmps := by
  obtain ⟨b', x', hb', h0, fn, tmps, d, h1, h2, h3⟩ := r.blk i _ hi
  have hbb : b' = b := by rw [hb] at hb'; simp at hb'; exact hb'.1.symm
  subst hbb
  exact ⟨fn, tmps, d, h1, (RvA.toL ⟨h2, h3⟩).1, (RvA.toL ⟨h2, h3⟩).2⟩

/-- At a round's end. -/
def endR (id : Nat) (K : V → Heap → Prop) : X → List V → Heap → Prop := fun x _ h =>
  match hget h id with
  | some (.loop e ps as bo _ _) =>
    (match x with
    | .normal => forceH (h.set id (lB e ps as bo .ready none)) fun h' => K (.bool true) h'
    | .ret => forceH (h.set id (lB e ps as bo .done (some .ret))) fun h' => K (.bool false) h'
    | .exit i => forceH (h.set id (lB e ps as bo .done (some (.exit i)))) fun h' => K (.bool false) h')
  | _ => False

/-- Between the assignment and the body. -/
def midR (W : Code → WP) (id : Nat) (body : Code) (K : V → Heap → Prop) : X → List V → Heap → Prop := fun x env h =>
  match x with
  | .normal => (match hget h id with
    | some (.loop e ps as bo .ready pd) => forceH (h.set id (lB e ps as bo .busy pd)) fun h' => W body env h' (endR id K)
    | _ => False)
  | _ => False

theorem RoundP.intro {P : Program} {T : Nat → Option TI} {id : Nat} {args env : List V} {h : Heap} {ps : List Nat} {as bo : Code} {st : LoopState} {pd : Option Code} {K : V → Heap → Prop} (hi : hget h id = some (.loop env ps as bo st pd)) (hl : args.length = ps.length)
    (hk : Wp P T as (putAll env ps args) h (midR (Wp P T) id bo K)) : RoundP P id args h K := by
  refine ⟨fun φ μ B w cargs b hB r ha hb => ?_⟩
  obtain ⟨fn, tmps, d, hw, he⟩ := hget_loop r hi hb
  have hcl : cargs.size = ps.length := by rw [← ha.1]; exact hl
  refine ⟨_, _, _, _, run_yield hw (by simpa using hcl), ?_⟩
  simp only
  have heq : (ps.toArray.zip cargs).foldl (fun tmps (x : Nat × Value) => tmps.setIfInBounds x.1 x.2) tmps = (ps.zip cargs.toList).foldl (fun tmps p => tmps.setIfInBounds p.1 p.2) tmps := by
    rw [← Array.foldl_toList, Array.toList_zip]
  have he1 : EnvR φ μ (putAll env ps args) ((ps.toArray.zip cargs).foldl (fun tmps (x : Nat × Value) => tmps.setIfInBounds x.1 x.2) tmps) := by
    rw [heq]
    refine putAll_ok ps args cargs.toList env tmps he (by simpa using ha.1) (fun j hj => ?_)
    have := ha.2 j
    simpa using this
  refine roundIn_of_wpIn trivial ?_
  have hro : RoOk (some b) w := fun l e => by cases e; exact ⟨_, hw⟩
  refine wpIn_mono (hk.run (some b) φ μ B w { tmps := (ps.toArray.zip cargs).foldl (fun tmps (x : Nat × Value) => tmps.setIfInBounds x.1 x.2) tmps, defers := [] } hro hB r he1) ?_
  rintro e a1 w1 ⟨x, env1, h1, φ1, μ1, rfl, hq, hE1, r1, hx1, hf1, hd1⟩
  cases x with
  | exit i => cases hq
  | ret => cases hq
  | normal =>
    simp only [midR] at hq
    split at hq
    · rename_i e2 ps2 as2 bo2 pd2 hi2
      rw [forceH_eq] at hq
      have hb1 := Mu.le_plain hx1.mu hb
      obtain ⟨fn2, tmps2, d2, hw2, _⟩ := hget_loop r1 hi2 hb1
      have r2 := r1.setLoop hi2 hb1 hw2 .busy pd2
      have f2 := Fr.setLoop (rec' := { (⟨.ready, pd2, fn2, tmps2, ps2.toArray, as2, bo2, d2⟩ : Loop) with state := .busy }) hb1 hw2
      refine ⟨_, run_beginRound hw2 rfl, ?_⟩
      have hfr2 := hf1.trans hx1 f2
      refine wpIn_mono (hq.run (some b) φ1 μ1 B _ a1 (hro.fr hfr2) (Nat.le_trans hB hfr2.size) r2 hE1) ?_
      rintro e a3 w3 ⟨x, env3, h3, φ3, μ3, rfl, hq3, hE3, r3, hx3, hf3, hd3⟩
      unfold endR at hq3
      split at hq3
      · rename_i e3 ps3 as3 bo3 st3 pd3 hi3
        have hb3 := Mu.le_plain hx3.mu hb1
        obtain ⟨fn3, tmps3, d3, hw3, _⟩ := hget_loop r3 hi3 hb3
        have hx13 : Ext φ μ w φ3 μ3 := hx1.trans hfr2.size hx3
        have hf13 : Fr μ w w3 := hfr2.trans hx1 hf3
        have fin : ∀ (jump : Option Code) (st4 : LoopState), st4 = (if jump.isNone then .ready else .done) → K (.bool jump.isNone) (h3.set id (lB e3 ps3 as3 bo3 st4 jump)) → ∃ v w', (Instr.endRound b jump).run P w3 = .ok v w' ∧ ∃ v' h' φ' μ' cv, (Ending.returned v) = .returned cv ∧ K v' h' ∧ Rv φ' μ' v' cv ∧ Rel φ' μ' B h' w' ∧ Ext φ μ w φ' μ' ∧ Fr μ w w' := fun jump st4 e4 hK => by
          subst e4
          have f4 := Fr.setLoop (rec' := { (⟨st3, pd3, fn3, tmps3, ps3.toArray, as3, bo3, d3⟩ : Loop) with state := if jump.isNone then .ready else .done, pending := jump }) hb3 hw3
          exact ⟨_, _, run_endRound jump hw3, _, _, φ3, μ3, _, rfl, hK, .bool _ _, r3.setLoop hi3 hb3 hw3 _ _, hx13, hf13.trans hx13 f4⟩
        cases x with
        | normal => simp only [forceH_eq] at hq3; exact fin none _ rfl hq3
        | ret => simp only [forceH_eq] at hq3; exact fin (some .ret) _ rfl hq3
        | exit i => simp only [forceH_eq] at hq3; exact fin (some (.exit i)) _ rfl hq3
      · cases hq3
    · cases hq
end Go.Cx
namespace Go.Cx
open Go.RowKit

def pendR (Q : X → List V → Heap → Prop) (env : List V) (h : Heap) (pd : Option Code) : Prop :=
  match pd with
  | none => Q .normal env h
  | some .ret => Q .ret env h
  | some (.exit i) => Q (.exit i) env h
  | _ => False

/-- When the function that is ranged over has come back. -/
def endF (env : List V) (id : Nat) (Q : X → List V → Heap → Prop) (h : Heap) : Prop :=
  match hget h id with
  | some (.loop _ _ _ _ .ready pd) | some (.loop _ _ _ _ .done pd) =>
    forceH (h.set id none) fun h' => pendR Q env h' pd
  | _ => False

theorem enter_ok {P : Program} {ρ : Option Nat} {w : World} (hro : RoOk ρ w) (fn : FuncId) (tmps : Array Value) (ps : Array Tmp) (as bo : Code) :
    ∃ (l : Nat) (ms : List Nat) (wA : World) (d : Nat), (Instr.enterLoop fn tmps ps as bo ρ).run P w = .ok (l, ms.map markOf) (wA.alloc (.loop { state := .ready, pending := none, fn := fn, tmps := tmps, params := ps, assign := as, body := bo, defers := d })) ∧ l = wA.heap.size ∧
      w.heap.size ≤ wA.heap.size ∧ (∀ k, k < w.heap.size → wA.heap[k]? = w.heap[k]?) ∧ wA.os = w.os ∧ wA.tape = w.tape ∧ wA.output = w.output ∧ w.drawn ≤ wA.drawn ∧ ms.Nodup ∧ ∀ r ∈ ms, w.heap.size ≤ r ∧ wA.heap[r]? = some (.deferred (some [])) := by
  cases ρ with
  | none =>
    exact ⟨_, [w.heap.size], w.alloc (.deferred (some [])), w.heap.size, run_enterLoop_outer fn tmps ps as bo, by rw [alloc_size], by rw [alloc_size]; omega, fun k hk => alloc_old w _ hk, rfl, rfl, rfl, Nat.le_refl _, by simp, fun r hr => by
      simp only [List.mem_singleton] at hr
      subst hr
      exact ⟨Nat.le_refl _, alloc_new w _⟩⟩
  | some l0 =>
    obtain ⟨r0, h0⟩ := hro l0 rfl
    exact ⟨_, [], w, r0.defers, run_enterLoop_inner h0 fn tmps ps as bo, rfl, Nat.le_refl _, fun _ _ => rfl, rfl, rfl, rfl, Nat.le_refl _, List.nodup_nil, fun r hr => by cases hr⟩

/-- The function has a text. -/
def bodyB (P : Program) (g : FuncId) : Bool := match P.funcs[g]? with | some fn => fn.body.isSome && !(fn.name == "runtime.NumGoroutine") | none => false
theorem bodyB_ok {P : Program} {g : FuncId} (h : bodyB P g = true) : ∃ fn, P.funcs[g]? = some fn ∧ fn.body.isSome = true ∧ (fn.name == "runtime.NumGoroutine") = false := by
  unfold bodyB at h
  split at h
  · rename_i fn hf
    simp only [Bool.and_eq_true, Bool.not_eq_true'] at h
    exact ⟨fn, hf, h.1, h.2⟩
  · cases h

theorem RangeP.intro {P : Program} {T : Nat → Option TI} {f : Operand} {ps : Array Tmp} {as bo : Code} {env : List V} {h : Heap} {Q : X → List V → Heap → Prop} {g : FuncId} {first caps : List V} (hf : evE env f = .fn (.func g) first caps) (hbody : bodyB P g = true)
    (hk : fl2 (first ++ [.yld h.length] ++ caps) fun args => forceH (h ++ [lB env ps.toList as bo .ready none]) fun h' => Sem P g args h' fun _ h' => endF env h.length Q h') : RangeP P T f ps as bo env h Q := by
  rw [fl2_eq, forceH_eq] at hk
  refine ⟨fun ρ φ μ B w a hro hB r he => wpIn_rangeFunc ?_⟩
  intro fn _
  obtain ⟨l, ms, wA, d, hrun, hl, hs, hold, e1, e2, e3, e4, hnd, hms⟩ := enter_ok (P := P) hro fn a.tmps ps as bo
  obtain ⟨rec, hrec⟩ : ∃ rec : Loop, rec = { state := .ready, pending := none, fn := fn, tmps := a.tmps, params := ps, assign := as, body := bo, defers := d } := ⟨_, rfl⟩
  rw [← hrec] at hrun
  have rA : Rel φ μ B h wA := r.grow hs hold
  have fA : Fr μ w wA := ⟨e1, e2, e3, hs, fun k hk _ => hold k hk, fun k q hq => ⟨q, (hold k (Array.getElem?_eq_some_iff.1 hq).1).trans hq⟩, e4⟩
  have hBA : B ≤ wA.heap.size := Nat.le_trans hB hs
  have x1 : Ext φ μ wA φ (μ.add h.length wA.heap.size none) := Ext.alloc rA
  have hid : (μ.add h.length wA.heap.size none) h.length = some (wA.heap.size, none) := by unfold Mu.add; rw [if_pos rfl]
  have he1 : EnvR φ (μ.add h.length wA.heap.size none) env a.tmps := he.mono x1.phi x1.mu
  have r1 : Rel φ (μ.add h.length wA.heap.size none) B (h ++ [some (.loop env ps.toList as bo .ready none)]) (wA.alloc (.loop rec)) :=
    rA.allocB hBA (.loop rec) _ none ⟨rfl, fn, a.tmps, d, by rw [alloc_new, hrec], he.size, fun j _ => he1.rv j⟩
  have f1 : Fr μ wA (wA.alloc (.loop rec)) := Fr.alloc μ wA _
  have fAll : Fr μ w (wA.alloc (.loop rec)) := fA.trans (Ext.refl φ μ w) f1
  have xAll : Ext φ μ w φ (μ.add h.length wA.heap.size none) := (Ext.refl φ μ w).trans hs x1
  have hfv := he.eval r f
  rw [hf] at hfv
  generalize hcf : a.eval f = cf at hfv
  cases hfv with
  | fn _ _ _ _ c1 c2 l1 l2 h1 h2 =>
    have hA : RvL φ (μ.add h.length wA.heap.size none) (first ++ [.yld h.length] ++ caps) (c1 ++ #[.func (.yield l) #[] #[]] ++ c2) := by
      refine (RvA.app (RvA.app ⟨l1, fun j hj => (h1 j hj).mono x1.phi x1.mu⟩ ⟨rfl, fun j hj => ?_⟩) ⟨l2, fun j hj => (h2 j hj).mono x1.phi x1.mu⟩).toL
      simp at hj
      subst hj
      rw [hl]
      exact .yld _ _ _ hid
    have hcalls0 := hk.run φ (μ.add h.length wA.heap.size none) B (wA.alloc (.loop rec)) _ (Nat.le_trans hBA (by rw [alloc_size]; omega)) r1 hA
    have hent := callFunc_enter (P := P) (args := c1 ++ #[.func (.yield l) #[] #[]] ++ c2) (w := wA.alloc (.loop rec)) (bodyB_ok hbody)
    have hcalls := (hcalls0.elim (fun h => h.2) (fun ⟨v, h, _⟩ => by rw [hent] at h; cases h))
    refine ⟨l, ms.map markOf, _, { target := .fn (.func g) c2, args := c1 ++ #[.func (.yield l) #[] #[]] }, wA.alloc (.loop rec), g, c1 ++ #[.func (.yield l) #[] #[]] ++ c2, wA.alloc (.loop rec), hrun, ?_, fun _ _ => trivial, ?_, depth_fen, ?_⟩
    · have hc : ∀ v, a.eval (.const v) = v := fun _ => rfl
      simp [resolve, hcf, hc, Deferred.ofValue]
    · simp only [invoke]
      exact hent
    · rw [callsIn_fen]
      refine hcalls.mono ?_
      rintro e w3 ⟨v, h3, φ3, μ3, cv, rfl, hK, _, r3, x3, f3⟩
      unfold endF at hK
      have hb3 := Mu.le_plain x3.mu hid
      have hx13 : Ext φ μ w φ3 μ3 := xAll.trans fAll.size x3
      have hf13 : Fr μ w w3 := fAll.trans xAll f3
      have fin : ∀ (env' : List V) (ps' : List Nat) (as' bo' : Code) (st : LoopState) (pd : Option Code), hget h3 h.length = some (.loop env' ps' as' bo' st pd) → st ≠ .busy → pendR Q env (h3.set h.length none) pd → rangePost (fen ρ) 0 P l (PostC φ μ B w a.defers Q) { a with defers := ms.map markOf ++ a.defers } (.returned cv) w3 := fun env' ps' as' bo' st pd hi hst hq => by
        obtain ⟨fn3, tmps3, d3, hw3, _⟩ := hget_loop r3 hi hb3
        rw [← hl] at hw3
        have r4 := (r3.setLoop hi hb3 (hl ▸ hw3) .exhausted pd).drop h.length
        have f4 := Fr.setLoop (rec' := { (⟨st, pd, fn3, tmps3, ps'.toArray, as', bo', d3⟩ : Loop) with state := .exhausted }) hb3 (hl ▸ hw3)
        have hset : (h3.set h.length (some (.loop env' ps' as' bo' .exhausted pd))).set h.length none = h3.set h.length none := by simp
        rw [hset] at r4
        rw [← hl] at r4 f4
        have hf14 : Fr μ w (w3.putObj l (.loop { (⟨st, pd, fn3, tmps3, ps'.toArray, as', bo', d3⟩ : Loop) with state := .exhausted })) := hf13.trans hx13 f4
        have hmk : Mk μ3 w (w3.putObj l (.loop { (⟨st, pd, fn3, tmps3, ps'.toArray, as', bo', d3⟩ : Loop) with state := .exhausted })) a.defers (ms.map markOf ++ a.defers) := by
          refine ⟨ms, rfl, hnd, fun q hq' => ?_⟩
          obtain ⟨g1, g2⟩ := hms q hq'
          have hql : q < wA.heap.size := (Array.getElem?_eq_some_iff.1 g2).1
          have hn1 : ∀ i x, (μ.add h.length wA.heap.size none) i ≠ some (q, x) := fun i x hi' => by
            unfold Mu.add at hi'
            split at hi'
            · simp only [Option.some.injEq, Prod.mk.injEq] at hi'; omega
            · have := (r.dom i q x hi').2.1; omega
          have hn3 : ∀ i x, μ3 i ≠ some (q, x) := fun i x hi' => by
            rcases x3.fresh i q x hi' with ⟨y, hy⟩ | hy
            · exact hn1 i y hy
            · rw [alloc_size] at hy; omega
          refine ⟨g1, ?_, hn3⟩
          have hne : q ≠ l := by omega
          rw [World.putObj_heap_other hne, f3.block q (by rw [alloc_size]; omega) hn1, alloc_old wA _ hql]
          exact g2
        refine ⟨pd, _, run_endLoop hw3 hst, ?_⟩
        have hE := he.mono hx13.phi hx13.mu
        unfold pendR at hq
        split at hq
        · exact ⟨.normal, env, _, φ3, μ3, rfl, hq, hE, r4, hx13, hf14, hmk⟩
        · exact wpIn_ret ⟨.ret, env, _, φ3, μ3, rfl, hq, hE, r4, hx13, hf14, hmk⟩
        · exact wpIn_exit ⟨.exit _, env, _, φ3, μ3, rfl, hq, hE, r4, hx13, hf14, hmk⟩
        · cases hq
      split at hK
      · rename_i hi
        rw [forceH_eq] at hK
        exact fin _ _ _ _ _ _ hi (by simp) hK
      · rename_i hi
        rw [forceH_eq] at hK
        exact fin _ _ _ _ _ _ hi (by simp) hK
      · cases hK
end Go.Cx
namespace Go.Cx
open Go.RowKit

/-! ### What blocks a value speaks of -/
def V.refs1 (p : Nat → Bool) : V → Bool
  | .ptr i _ => p i
  | .gptr i _ _ => p i
  | .lsl i _ _ _ _ => p i
  | .gsl i _ _ _ _ _ _ => p i
  | .map i => p i
  | .yld i => p i
  | .psl _ _ (.own i) => p i
  | .fn _ a b => a.isEmpty && b.isEmpty
  | .agg _ => false
  | .tup _ => false
  | _ => true
def V.refs2 (p : Nat → Bool) : V → Bool
  | .fn _ a b => a.all (V.refs1 p) && b.all (V.refs1 p)
  | .agg cs => cs.all (V.refs1 p)
  | .tup cs => cs.all (V.refs1 p)
  | v => v.refs1 p
def V.refs (p : Nat → Bool) : V → Bool
  | .fn _ a b => a.all (V.refs2 p) && b.all (V.refs2 p)
  | .agg cs => cs.all (V.refs2 p)
  | .tup cs => cs.all (V.refs2 p)
  | v => v.refs1 p
def Blk.refs (p : Nat → Bool) : Blk → Bool
  | .cells _ cs => cs.all (V.refs p)
  | .token _ _ => true
  | .grow _ _ _ cs => cs.all (V.refs p)
  | .dead => true
  | .siter _ _ => true
  | .miter mid _ _ _ => p mid
  | .map es _ => es.all fun x => x.1.refs p && x.2.1.refs p
  | .mapc es _ => es.all fun x => x.1.refs p && x.2.refs p
  | .loop env _ _ _ _ _ => env.all (V.refs p)

section
variable {φ : Phi} {μ μ' : Mu} {p : Nat → Bool} (hp : ∀ i, p i = true → μ' i = μ i)
include hp

theorem refs1_rv {v : V} {c : Value} (h : Rv φ μ v c) (hr : v.refs1 p = true) : Rv φ μ' v c := by
  cases h with
  | undef => exact .undef _ _
  | bool => exact .bool _ _
  | int => exact .int _ _ _
  | str => exact .str _ _
  | nilp => exact .nilp _
  | ptr _ id off bb hm => exact .ptr _ _ _ _ ((hp id hr).trans hm)
  | gptr _ id off ver b m a h1 h2 h3 => exact .gptr _ _ _ _ b m a ((hp id hr).trans h1) h2 h3
  | iptr _ cs bb off c h1 h2 => exact .iptr _ _ _ _ c h1 h2
  | fn _ f a b cf cc l1 l2 h1 h2 =>
    simp only [V.refs1, Bool.and_eq_true, List.isEmpty_iff] at hr
    obtain ⟨rfl, rfl⟩ := hr
    exact .fn _ _ _ _ _ _ l1 l2 (fun j hj => by cases hj) (fun j hj => by cases hj)
  | nilfn => exact .nilfn _
  | nils => exact .nils _
  | psl0 => exact .psl0 _ _ _ _
  | psl _ sz xs tok bb off cap c h0 h1 h2 h3 h4 =>
    cases tok with
    | any => exact .psl _ _ _ _ _ _ _ c h0 h1 h2 h3 trivial
    | exact => exact .psl _ _ _ _ _ _ _ c h0 h1 h2 h3 h4
    | own id =>
      obtain ⟨b', m', g1, g2⟩ := h4
      exact .psl _ _ _ _ _ _ _ c h0 h1 h2 h3 ⟨b', m', (hp id hr).trans g1, g2⟩
  | lsl _ id sz off n cap bb hm h' => exact .lsl _ _ _ _ _ _ _ ((hp id hr).trans hm) h'
  | gsl _ id sz off n lo ex ver b m cc a h1 h2 h3 h4 h5 h6 => exact .gsl _ _ _ _ _ _ _ _ b m cc a ((hp id hr).trans h1) h2 h3 h4 h5 h6
  | map _ id bb hm => exact .map _ _ _ ((hp id hr).trans hm)
  | nilm => exact .nilm _
  | yld _ id bb hm => exact .yld _ _ _ ((hp id hr).trans hm)
  | agg => cases hr
  | tup => cases hr

theorem refs2_rv {v : V} {c : Value} (h : Rv φ μ v c) (hr : v.refs2 p = true) : Rv φ μ' v c := by
  unfold V.refs2 at hr
  split at hr
  · simp only [Bool.and_eq_true] at hr
    cases h with
    | fn _ f a b cf cc l1 l2 h1 h2 => exact .fn _ _ _ _ _ _ l1 l2 (fun j hj => refs1_rv hp (h1 j hj) (all_getD hr.1 hj)) (fun j hj => refs1_rv hp (h2 j hj) (all_getD hr.2 hj))
  · obtain ⟨cs, rfl, hA⟩ := h.agg_inv
    exact .agg _ _ _ hA.1 (fun j hj => refs1_rv hp (hA.2 j hj) (all_getD hr hj))
  · obtain ⟨cs, rfl, hA⟩ := h.tup_inv
    exact .tup _ _ _ hA.1 (fun j hj => refs1_rv hp (hA.2 j hj) (all_getD hr hj))
  · exact refs1_rv hp h hr

theorem refs_rv {v : V} {c : Value} (h : Rv φ μ v c) (hr : v.refs p = true) : Rv φ μ' v c := by
  unfold V.refs at hr
  split at hr
  · simp only [Bool.and_eq_true] at hr
    cases h with
    | fn _ f a b cf cc l1 l2 h1 h2 => exact .fn _ _ _ _ _ _ l1 l2 (fun j hj => refs2_rv hp (h1 j hj) (all_getD hr.1 hj)) (fun j hj => refs2_rv hp (h2 j hj) (all_getD hr.2 hj))
  · obtain ⟨cs, rfl, hA⟩ := h.agg_inv
    exact .agg _ _ _ hA.1 (fun j hj => refs2_rv hp (hA.2 j hj) (all_getD hr hj))
  · obtain ⟨cs, rfl, hA⟩ := h.tup_inv
    exact .tup _ _ _ hA.1 (fun j hj => refs2_rv hp (hA.2 j hj) (all_getD hr hj))
  · exact refs1_rv hp h hr

theorem refs_blk {b : Nat} {x : Option Nat} {w : World} {k : Blk} (h : BlkR φ μ b x w k) (hr : k.refs p = true) : BlkR φ μ' b x w k := by
  cases k with
  | cells e cs =>
    obtain ⟨g0, c, g1, g2, g3, g4⟩ := h
    exact ⟨g0, c, g1, g2, fun j hj => refs_rv hp (g3 j hj) (all_getD hr hj), g4⟩
  | grow ver e sz cs =>
    obtain ⟨g0, c, g1, g2, g3, g4, g5⟩ := h
    exact ⟨g0, c, g1, g2, g3, fun j hj => refs_rv hp (g4 j hj) (all_getD hr hj), g5⟩
  | dead => trivial
  | siter s p => exact h
  | miter mid since seen last =>
    obtain ⟨g0, bm, g1, g2⟩ := h
    exact ⟨g0, bm, (hp mid hr).trans g1, g2⟩
  | token sz n => exact h
  | map es clock =>
    obtain ⟨g0, c, g1, g2, g3⟩ := h
    refine ⟨g0, c, g1, g2, fun j x y hx hy => ?_⟩
    obtain ⟨k1, k2, k3⟩ := g3 j x y hx hy
    simp only [Blk.refs, List.all_eq_true] at hr
    have := hr x (List.mem_of_getElem? hx)
    simp only [Bool.and_eq_true] at this
    exact ⟨refs_rv hp k1 this.1, refs_rv hp k2 this.2, k3⟩
  | mapc es clock =>
    obtain ⟨g0, c, fs, g1, g2, g3, g4⟩ := h
    refine ⟨g0, c, fs, g1, g2, fun j x y hx hy => ?_, g4⟩
    obtain ⟨k1, k2, k3⟩ := g3 j x y hx hy
    simp only [Blk.refs, List.all_eq_true] at hr
    have := hr (x.1, x.2.1) (g4.1.mem_iff.1 (List.mem_map_of_mem (f := fun x : V × V × Nat => (x.1, x.2.1)) (List.mem_of_getElem? hx)))
    simp only [Bool.and_eq_true] at this
    exact ⟨refs_rv hp k1 this.1, refs_rv hp k2 this.2, k3⟩
  | loop env ps assign body st pend =>
    obtain ⟨g0, fn, t, d, g1, g2, g3⟩ := h
    exact ⟨g0, fn, t, d, g1, g2, fun j hj => refs_rv hp (g3 j hj) (all_getD hr hj)⟩
end

def liveB (h : Heap) (i : Nat) : Bool := (hget h i).isSome
theorem liveB_some {h : Heap} {i : Nat} {k : Blk} (hk : hget h i = some k) : liveB h i = true := by unfold liveB; rw [hk]; rfl
theorem liveB_ex {h : Heap} {i : Nat} (hl : liveB h i = true) : i < h.length ∧ ∃ k, hget h i = some k := by
  unfold liveB at hl
  cases hk : hget h i with
  | none => rw [hk] at hl; cases hl
  | some k =>
    refine ⟨?_, k, rfl⟩
    rcases Nat.lt_or_ge i h.length with h1 | h1
    · exact h1
    · unfold hget at hk; rw [List.getElem?_eq_none h1] at hk; cases hk

theorem applyW_length : ∀ (wr : List (Nat × Blk)) (h : Heap), (applyW h wr).length = h.length
  | [], h => rfl
  | p :: wr, h => by
    show (applyW (h.set p.1 (some p.2)) wr).length = _
    rw [applyW_length wr, List.length_set]
theorem applyW_hget : ∀ (wr : List (Nat × Blk)) (h : Heap) (i : Nat), (∀ p ∈ wr, p.1 ≠ i) → hget (applyW h wr) i = hget h i
  | [], h, i, _ => rfl
  | p :: wr, h, i, hp => by
    show hget (applyW (h.set p.1 (some p.2)) wr) i = _
    rw [applyW_hget wr _ i (fun q hq => hp q (by simp [hq])), hget_set, if_neg (fun e => hp p (by simp) e.1)]
theorem applyW_some : ∀ (wr : List (Nat × Blk)) (h : Heap) (i : Nat), hget h i ≠ none → hget (applyW h wr) i ≠ none
  | [], h, i, hh => hh
  | p :: wr, h, i, hh => by
    show hget (applyW (h.set p.1 (some p.2)) wr) i ≠ none
    refine applyW_some wr _ i ?_
    rw [hget_set]
    split
    · simp
    · exact hh
theorem applyW_mem : ∀ (wr : List (Nat × Blk)) (h : Heap) (i : Nat) (k : Blk), (i, k) ∈ wr → i < h.length → hget (applyW h wr) i ≠ none
  | p :: wr, h, i, k, hm, hl => by
    show hget (applyW (h.set p.1 (some p.2)) wr) i ≠ none
    rcases List.mem_cons.1 hm with e | hm'
    · refine applyW_some wr _ i ?_
      subst e
      rw [hget_set, if_pos ⟨rfl, hl⟩]; simp
    · exact applyW_mem wr _ i k hm' (by simpa using hl)
/-- What is written is the same in whatever heap. -/
theorem applyW_same : ∀ (wr : List (Nat × Blk)) (h h' : Heap) (i : Nat), i < h.length → i < h'.length → (∃ k, (i, k) ∈ wr) ∨ hget h i = hget h' i → hget (applyW h wr) i = hget (applyW h' wr) i
  | [], h, h', i, _, _, hc => by
    rcases hc with ⟨k, hk⟩ | hc
    · cases hk
    · exact hc
  | p :: wr, h, h', i, h1, h2, hc => by
    show hget (applyW (h.set p.1 (some p.2)) wr) i = hget (applyW (h'.set p.1 (some p.2)) wr) i
    refine applyW_same wr _ _ i (by simpa using h1) (by simpa using h2) ?_
    rw [hget_set, hget_set]
    by_cases hp : p.1 = i
    · subst hp
      exact .inr (by rw [if_pos ⟨rfl, h1⟩, if_pos ⟨rfl, h2⟩])
    · rw [if_neg (fun e => hp e.1), if_neg (fun e => hp e.1)]
      rcases hc with ⟨k, hk⟩ | hc
      · rcases List.mem_cons.1 hk with e | hk
        · exact absurd (by rw [← e]) hp
        · exact .inl ⟨k, hk⟩
      · exact .inr hc

/-- Something that is run with arguments: a call, or a round. -/
abbrev RunR := World → Array Value → (Ending → World → Prop) → Prop
structure FrP (R : RunR) (args : List V) (h : Heap) (K : V → Heap → Prop) : Prop where
  run : ∀ (φ : Phi) (μ : Mu) (B : Nat) (w : World) (cargs : Array Value), B ≤ w.heap.size → Rel φ μ B h w → RvL φ μ args cargs → R w cargs (Ret φ μ B w K)

/-- It looks at these blocks alone, and writes those. -/
structure FrOk (args : List V) (hs : Heap) (v : V) (wr : List (Nat × Blk)) (nw : Nat) : Prop where
  args : args.all (V.refs (liveB hs)) = true
  blks : ∀ i k, hget hs i = some k → k.refs (liveB hs) = true ∧ k ≠ .dead
  res : v.refs (liveB (applyW (hs ++ List.replicate nw none) wr)) = true
  blks' : ∀ i k, hget (applyW (hs ++ List.replicate nw none) wr) i = some k → k.refs (liveB (applyW (hs ++ List.replicate nw none) wr)) = true
  wr : ∀ p ∈ wr, (hs.length ≤ p.1 ∧ p.1 < hs.length + nw) ∨ liveB hs p.1 = true

theorem frame {R : RunR} (hmono : ∀ w cargs (Q Q' : Ending → World → Prop), (∀ e w', Q e w' → Q' e w') → R w cargs Q → R w cargs Q') {args : List V} {hs : Heap} {v : V} {wr : List (Nat × Blk)} {nw : Nat}
    (hrun : FrP R args hs fun v' h' => v' = v ∧ h' = applyW (hs ++ List.replicate nw none) wr) (ok : FrOk args hs v wr nw) {φ : Phi} {μ : Mu} {B : Nat} {h : Heap} {w : World} {cargs : Array Value} (hB : B ≤ w.heap.size) (r : Rel φ μ B h w) (ha : RvL φ μ args cargs)
    (hag : ∀ i k, hget hs i = some k → hget h i = some k) (hlen : hs.length + nw ≤ h.length) (hfree : ∀ q, q < nw → μ (hs.length + q) = none) :
    R w cargs fun e w' => ∃ cv, e = .returned cv ∧ ∃ φ' μ', Rv φ' μ' v cv ∧ Rel φ' μ' B (applyW h wr) w' ∧ Ext φ μ w φ' μ' ∧ Fr μ w w' ∧ ∀ i, μ' i ≠ μ i → (∃ k, (i, k) ∈ wr) ∧ ((hs.length ≤ i ∧ i < hs.length + nw) ∨ μ i ≠ none) := by
  obtain ⟨μr, hμr⟩ : ∃ μr : Mu, μr = fun i => if liveB hs i = true then μ i else none := ⟨_, rfl⟩
  have hr1 : ∀ i, liveB hs i = true → μr i = μ i := fun i hi => by rw [hμr]; simp only [hi, if_true]
  have hr2 : ∀ i x, μr i = some x → liveB hs i = true ∧ μ i = some x := fun i x hi => by
    rw [hμr] at hi
    simp only at hi
    split at hi
    · rename_i hl; exact ⟨hl, hi⟩
    · cases hi
  have rr : Rel φ μr B hs w := by
    refine ⟨r.glob, r.cell, r.size, fun i j b x y hi hj => r.inj i j b x y (hr2 i _ hi).2 (hr2 j _ hj).2, fun i b x hi => ?_, fun i k hk => ?_⟩
    · have := r.dom i b x (hr2 i _ hi).2
      exact ⟨(liveB_ex (hr2 i _ hi).1).1, this.2⟩
    · obtain ⟨b, x, h1, h2⟩ := r.blk i k (hag i k hk)
      exact ⟨b, x, (hr1 i (liveB_some hk)).trans h1, refs_blk hr1 h2 (ok.blks i k hk).1⟩
  have har : RvL φ μr args cargs := ⟨ha.1, fun j => by
    by_cases hj : j < args.length
    · exact refs_rv hr1 (ha.2 j) (all_getD ok.args hj)
    · have : args.getD j .undef = .undef := by simp [List.getElem?_eq_none (Nat.le_of_not_lt hj)]
      rw [this]; exact .undef _ _⟩
  refine hmono _ _ _ _ (fun e w' hq => ?_) (hrun.run φ μr B w cargs hB rr har)
  obtain ⟨v', h', φ', μ0, cv, he, ⟨hv, hh'⟩, hrv, hr, hx, hf⟩ := hq
  subst hv; subst hh'
  obtain ⟨hs', hhs'⟩ : ∃ hs', hs' = applyW (hs ++ List.replicate nw none) wr := ⟨_, rfl⟩
  have okr := ok.res
  have okb := ok.blks'
  rw [← hhs'] at hr okr okb
  have hlen' : hs'.length = hs.length + nw := by rw [hhs', applyW_length]; simp
  have hpad : ∀ i, hget (hs ++ List.replicate nw none) i = hget hs i := fun i => hget_pad hs nw i
  obtain ⟨μ', hμ'⟩ : ∃ μ' : Mu, μ' = fun i => if liveB hs' i = true then μ0 i else μ i := ⟨_, rfl⟩
  have f1 : ∀ i, liveB hs' i = true → μ' i = μ0 i := fun i hi => by rw [hμ']; simp only [hi, if_true]
  have f2 : ∀ i, liveB hs' i = false → μ' i = μ i := fun i hi => by rw [hμ']; simp only [hi, Bool.false_eq_true, if_false]
  have f3 : ∀ i, liveB hs i = true → liveB hs' i = true := fun i hi => by
    obtain ⟨_, k, hk⟩ := liveB_ex hi
    have : hget hs' i ≠ none := by rw [hhs']; exact applyW_some _ _ _ (by rw [hpad, hk]; simp)
    cases hq : hget hs' i with
    | none => exact absurd hq this
    | some k' => exact liveB_some hq
  have f5 : ∀ i, liveB hs' i = true → (∀ k, (i, k) ∉ wr) → liveB hs i = true ∧ hget hs' i = hget hs i := fun i hi hn => by
    have : hget hs' i = hget hs i := by rw [hhs', applyW_hget _ _ _ (fun p hp e => hn p.2 (by rw [← e]; exact hp)), hpad]
    obtain ⟨_, k, hk⟩ := liveB_ex hi
    exact ⟨liveB_some (this ▸ hk), this⟩
  have f4 : ∀ i, liveB hs' i = true → liveB hs i = true ∨ (hs.length ≤ i ∧ i < hs.length + nw) := fun i hi => by
    by_cases hm : ∃ k, (i, k) ∈ wr
    · obtain ⟨k, hk⟩ := hm
      rcases ok.wr _ hk with h1 | h1
      · exact .inr h1
      · exact .inl h1
    · exact .inl (f5 i hi (fun k hk => hm ⟨k, hk⟩)).1
  have fresh0 : ∀ i b x, μ0 i = some (b, x) → (∃ y, liveB hs i = true ∧ μ i = some (b, y)) ∨ w.heap.size ≤ b ∨ False := fun i b x hi => by
    rcases hx.fresh i b x hi with ⟨y, hy⟩ | hb
    · exact .inl ⟨y, hr2 i _ hy⟩
    · exact .inr (.inl hb)
  have hsame : ∀ i b x, liveB hs' i = false → μ i = some (b, x) → w'.heap[b]? = w.heap[b]? ∧ ∀ j y, μr j ≠ some (b, y) := fun i b x hi hm => by
    have hno : ∀ j y, μr j ≠ some (b, y) := fun j y hj => by
      obtain ⟨h1, h2⟩ := hr2 j _ hj
      have := r.inj i j b x y hm h2
      subst this
      rw [f3 i h1] at hi; cases hi
    exact ⟨hf.block b (r.dom i b x hm).2.1 hno, hno⟩
  have hmu : μ.le μ' := fun i x hi => by
    cases hl : liveB hs' i with
    | false => exact .inl ((f2 i hl).trans hi)
    | true =>
      rcases f4 i hl with h1 | h1
      · have := hx.mu i x ((hr1 i h1).trans hi)
        rw [f1 i hl]
        exact this
      · have := hfree (i - hs.length) (by omega)
        rw [show hs.length + (i - hs.length) = i by omega, hi] at this
        cases this
  have hx' : Ext φ μ w φ' μ' := ⟨hx.phi, hmu, fun i b x hi => by
    cases hl : liveB hs' i with
    | false => exact .inl ⟨x, (f2 i hl).symm.trans hi⟩
    | true =>
      rw [f1 i hl] at hi
      rcases fresh0 i b x hi with ⟨y, _, hy⟩ | hb | hb
      · exact .inl ⟨y, hy⟩
      · exact .inr hb
      · exact hb.elim, fun b o u hu => by
    rcases hx.cells b o u hu with h1 | h1 | ⟨i, y, h1⟩
    · exact .inl h1
    · exact .inr (.inl h1)
    · exact .inr (.inr ⟨i, y, (hr2 i _ h1).2⟩)⟩
  refine ⟨cv, he, φ', μ', refs_rv f1 hrv okr, ⟨hr.glob, hr.cell, hr.size, fun i j b x y hi hj => ?_, fun i b x hi => ?_, fun i k hk => ?_⟩, hx', ⟨hf.os, hf.tape, hf.output, hf.size, fun k hk hn => hf.block k hk (fun i x hi => hn i x (hr2 i _ hi).2), hf.loops, hf.mono⟩, fun i hi => ?_⟩
  · have cross : ∀ i j b x y, liveB hs' i = true → liveB hs' j = false → μ0 i = some (b, x) → μ j = some (b, y) → False := fun i j b x y li lj hi hj => by
      rcases fresh0 i b x hi with ⟨z, h1, h2⟩ | hb | hb
      · have := r.inj i j b z y h2 hj
        subst this
        rw [li] at lj; cases lj
      · have := (r.dom j b y hj).2.1; omega
      · exact hb
    cases li : liveB hs' i <;> cases lj : liveB hs' j
    · rw [f2 i li] at hi; rw [f2 j lj] at hj; exact r.inj i j b x y hi hj
    · rw [f2 i li] at hi; rw [f1 j lj] at hj; exact (cross j i b y x lj li hj hi).elim
    · rw [f1 i li] at hi; rw [f2 j lj] at hj; exact (cross i j b x y li lj hi hj).elim
    · rw [f1 i li] at hi; rw [f1 j lj] at hj; exact hr.inj i j b x y hi hj
  · rw [applyW_length]
    cases li : liveB hs' i with
    | false =>
      rw [f2 i li] at hi
      have := r.dom i b x hi
      have := hf.size
      omega
    | true =>
      rw [f1 i li] at hi
      have := hr.dom i b x hi
      omega
  · cases li : liveB hs' i with
    | true =>
      have hil := (liveB_ex li).1
      have e : hget (applyW h wr) i = hget hs' i := by
        rw [hhs']
        refine (applyW_same wr _ _ i (by simp; omega) (by omega) ?_).symm
        by_cases hm : ∃ k, (i, k) ∈ wr
        · exact .inl hm
        · obtain ⟨h1, h2⟩ := f5 i li (fun k hk => hm ⟨k, hk⟩)
          obtain ⟨_, k0, hk0⟩ := liveB_ex h1
          exact .inr (by rw [hpad, hk0, hag i k0 hk0])
      rw [e] at hk
      obtain ⟨b, x, h1, h2⟩ := hr.blk i k hk
      exact ⟨b, x, (f1 i li).trans h1, refs_blk f1 h2 (okb i k hk)⟩
    | false =>
      have hn : ∀ k', (i, k') ∉ wr := fun k' hk' => by
        have hil : i < (hs ++ List.replicate nw none).length := by
          simp only [List.length_append, List.length_replicate]
          rcases ok.wr _ hk' with h1 | h1
          · exact h1.2
          · have := (liveB_ex h1).1; simp only at this; omega
        have := applyW_mem wr (hs ++ List.replicate nw none) i k' hk' hil
        rw [← hhs'] at this
        cases hq : hget hs' i with
        | none => exact this hq
        | some k0 => rw [liveB_some hq] at li; cases li
      rw [applyW_hget _ _ _ (fun p hp e => hn p.2 (by rw [← e]; exact hp))] at hk
      obtain ⟨b, x, h1, h2⟩ := r.blk i k hk
      obtain ⟨g1, g2⟩ := hsame i b x li h1
      exact ⟨b, x, (f2 i li).trans h1, h2.mono hx'.phi hmu g1 (fun o u hu => by
        rcases hx.cells b o u hu with h3 | h3 | ⟨i', y, h3⟩
        · exact h3
        · have := (r.dom i b x h1).2.1; omega
        · exact absurd h3 (g2 i' y))⟩
  · cases li : liveB hs' i with
    | false => exact absurd (f2 i li) hi
    | true =>
      have hwr : ∃ k, (i, k) ∈ wr := by
        rcases Classical.em (∃ k, (i, k) ∈ wr) with hm | hm
        · exact hm
        · exfalso
          obtain ⟨h1, h2⟩ := f5 i li (fun k hk => hm ⟨k, hk⟩)
          obtain ⟨_, k0, hk0⟩ := liveB_ex h1
          apply hi
          rw [f1 i li, ← hr1 i h1]
          obtain ⟨b1, x1, a1, a2⟩ := rr.blk i k0 hk0
          obtain ⟨b2, x2, c1, c2⟩ := hr.blk i k0 (h2.trans hk0)
          have hnd := (ok.blks i k0 hk0).2
          have hxx : x1 = x2 := by
            cases k0 with
            | dead => exact absurd rfl hnd
            | cells => exact a2.1.trans c2.1.symm
            | grow => exact a2.1.trans c2.1.symm
            | token => exact a2.1.trans c2.1.symm
            | siter => exact a2.1.trans c2.1.symm
            | miter => exact a2.1.trans c2.1.symm
            | map => exact a2.1.trans c2.1.symm
            | mapc => exact a2.1.trans c2.1.symm
            | loop => exact a2.1.trans c2.1.symm
          subst hxx
          rcases hx.mu i _ a1 with q | ⟨m, b', m', q1, q2, q3⟩
          · rw [q, a1]
          · exfalso
            rw [c1] at q2
            simp only [Option.some.injEq, Prod.mk.injEq] at q2
            simp only at q1
            rw [q1] at q2
            simp only [Option.some.injEq] at q2
            omega
      refine ⟨hwr, ?_⟩
      rcases f4 i li with h1 | h1
      · refine .inr ?_
        obtain ⟨_, k0, hk0⟩ := liveB_ex h1
        obtain ⟨b1, x1, a1, a2⟩ := rr.blk i k0 hk0
        rw [← hr1 i h1, a1]; simp
      · exact .inl h1
end Go.Cx
namespace Go.Cx
open Go.RowKit

structure Tr where
  v : V
  wr : List (Nat × Blk)
  acc : List Nat
  nw : Nat
  /-- An entry of a map, in whatever order it comes: the map, the type of its keys, key and value. -/
  ins : Option (Nat × Nat × V × V)
instance : Inhabited Tr := ⟨⟨.undef, [], [], 0, none⟩⟩

/-- What is written. -/
def wrT (h : Heap) (t : Tr) : List (Nat × Blk) :=
  match t.ins with
  | none => t.wr
  | some (id, _, k, v) => (match hget h id with | some (.mapc es c) => [(id, .mapc (insK k v es) (c + 1))] | _ => [])
def insIds (t : Tr) : List Nat := match t.ins with | none => [] | some (id, _) => [id]
def Tr.accs (t : Tr) : List Nat := insIds t ++ t.acc
def Tr.wrs (t : Tr) : List Nat := insIds t ++ t.wr.map fun p => p.1

abbrev Ds := List V × Heap
def Dapp (o : Oper) (t : Tr) (D : Ds) : Ds := (putE D.1 o.dst t.v, applyW D.2 (wrT D.2 t))

def guardB (ops : Array Oper) (env : List V) (g : Option (Nat × Bool)) : Option Bool :=
  match g with
  | none => some true
  | some (j, want) =>
    match (ops[j]?).bind (·.dst) with
    | some d => (match env.getD d .undef with | .bool b => some (b == want) | .tup [] => some false | _ => none)
    | none => none

def CallR (P : Program) (g : FuncId) : RunR := fun w cargs Q => CallTo P g cargs w Q

/-- A round, as something that is run: its first argument is the loop. -/
def RoundR (P : Program) : RunR := fun w cargs Q => ∃ b rest, cargs = #[.func (.yield b) #[] #[]] ++ rest ∧ ∃ f tmps assign body, (Instr.yield b rest).run P w = .ok (.round b f tmps assign body) w ∧ RoundIn Fence.wide 0 P b f tmps assign body w Q

/-- A call's outcome: it hangs on some blocks alone. -/
def CallT (R : RunR) (args : List V) (h : Heap) (nid : Nat) (t : Tr) : Prop :=
  t.ins = none ∧ ∃ hs : Heap, hs.length = nid ∧ (∀ i k, hget hs i = some k → i ∈ t.acc ∧ hget h i = some k) ∧ (∀ p ∈ t.wr, p.1 ∈ t.acc) ∧ FrOk args hs t.v t.wr t.nw ∧ FrP R args hs fun v' h' => v' = t.v ∧ h' = applyW (hs ++ List.replicate t.nw none) t.wr

theorem CallT.local {R : RunR} {args : List V} {h h' : Heap} {nid : Nat} {t : Tr} (hc : CallT R args h nid t) (hh : ∀ i ∈ t.acc, hget h i = hget h' i) : CallT R args h' nid t := by
  obtain ⟨h0, hs, h1, h2, h3, h4, h5⟩ := hc
  exact ⟨h0, hs, h1, fun i k hk => ⟨(h2 i k hk).1, (hh i (h2 i k hk).1).symm.trans (h2 i k hk).2⟩, h3, h4, h5⟩

def outOf (t : Tr) : Out := ⟨true, t.v, t.wr, t.acc, t.nw⟩

/-- An entry that is new to the map. -/
def InsT (T : Nat → Option TI) (ev : Operand → V) (h : Heap) (mt : Nat) (m k v : Operand) (t : Tr) : Prop :=
  ∃ (ti : TI) (kt e id : Nat) (es : List (V × V)) (clock : Nat), T mt = some ti ∧ ev m = .map id ∧ ti.k = .map kt e ∧ keyOk T kt (ev k) = true ∧ hget h id = some (.mapc es clock) ∧ hitsV T kt (ev k) es = some [] ∧ t = ⟨.undef, [], [], 0, some (id, kt, ev k, ev v)⟩

def OpT (P : Program) (T : Nat → Option TI) (md : Bool) (ev : Operand → V) (h : Heap) (nid : Nat) (op : Op) (t : Tr) : Prop :=
  match op with
  | .call c =>
    (match c.callee with
    | .value f => (match ev f with
      | .fn (.func g) first caps => CallT (CallR P g) (first ++ (c.args.toList.map ev) ++ caps) h nid t
      | .yld id => CallT (RoundR P) (.yld id :: c.args.toList.map ev) h nid t
      | _ => False)
    | .invoke _ _ => False
    | .builtin _ => t.ins = none ∧ opF P T md ev (hget h) nid (.call c) = some (outOf t))
  | .insert mt m k v => InsT T ev h mt m k v t
  | op => t.ins = none ∧ opF P T md ev (hget h) nid op = some (outOf t)

theorem OpT.local {P : Program} {T : Nat → Option TI} {md : Bool} {ev : Operand → V} {h h' : Heap} {nid : Nat} {op : Op} {t : Tr} (ho : OpT P T md ev h nid op t) (hh : ∀ i ∈ t.accs, hget h i = hget h' i) : OpT P T md ev h' nid op t := by
  have hh' : ∀ i ∈ t.acc, hget h i = hget h' i := fun i hi => hh i (by simp [Tr.accs, hi])
  cases op
  case call c =>
    simp only [OpT] at ho ⊢
    split at ho
    · split at ho
      · exact ho.local hh'
      · exact ho.local hh'
      · exact ho.elim
    · exact ho.elim
    · exact ⟨ho.1, opF_local ho.2 hh'⟩
  case insert mt m k v =>
    simp only [OpT] at ho ⊢
    obtain ⟨ti, kt, e, id, es, clock, h1, h2, h3, h4, h5, h6, rfl⟩ := ho
    exact ⟨ti, kt, e, id, es, clock, h1, h2, h3, h4, (hh id (by simp [Tr.accs, insIds])).symm.trans h5, h6, rfl⟩
  all_goals (simp only [OpT] at ho ⊢; exact ⟨ho.1, opF_local ho.2 hh'⟩)

theorem OpT.ev {P : Program} {T : Nat → Option TI} {md : Bool} {ev ev' : Operand → V} {h : Heap} {nid : Nat} {op : Op} {t : Tr} (hev : ∀ x ∈ op.operands, ev x = ev' x) (ho : OpT P T md ev h nid op t) : OpT P T md ev' h nid op t := by
  cases op
  case call c =>
    obtain ⟨callee, args, ts⟩ := c
    simp only [Op.operands] at hev
    have ha : args.toList.map ev = args.toList.map ev' := List.map_congr_left (fun x hx => hev x (by simp [Call.operands]; right; simpa using hx))
    cases callee with
    | value f =>
      have hf := hev f (by simp [Call.operands])
      simp only [OpT, hf, ha] at ho ⊢
      exact ho
    | invoke a b => exact ho
    | builtin b =>
      simp only [OpT] at ho ⊢
      refine ⟨ho.1, ?_⟩
      rw [← ho.2]
      exact (opF_ev _ (by simpa [Op.operands] using hev)).symm
  case insert mt m k v =>
    simp only [OpT, InsT] at ho ⊢
    rw [← hev m (by simp [Op.operands]), ← hev k (by simp [Op.operands]), ← hev v (by simp [Op.operands])]
    exact ho
  all_goals (simp only [OpT] at ho ⊢; refine ⟨ho.1, ?_⟩; rw [← ho.2]; exact (opF_ev _ hev).symm)

theorem OpT.wr {P : Program} {T : Nat → Option TI} {md : Bool} {ev : Operand → V} {h : Heap} {nid : Nat} {op : Op} {t : Tr} (ho : OpT P T md ev h nid op t) : ∀ p ∈ t.wr, p.1 ∈ t.acc := by
  have plain : ∀ {op : Op}, opF P T md ev (hget h) nid op = some (outOf t) → ∀ p ∈ t.wr, p.1 ∈ t.acc := fun hf p hp => (opF_wr hf p hp).1
  cases op
  case call c =>
    simp only [OpT] at ho
    split at ho
    · split at ho
      · obtain ⟨_, hs, _, _, h3, _⟩ := ho; exact h3
      · obtain ⟨_, hs, _, _, h3, _⟩ := ho; exact h3
      · exact ho.elim
    · exact ho.elim
    · exact plain ho.2
  case insert mt m k v =>
    simp only [OpT] at ho
    obtain ⟨ti, kt, e, id, es, clock, h1, h2, h3, h4, h5, h6, rfl⟩ := ho
    intro p hp
    cases hp
  all_goals (simp only [OpT] at ho; exact plain ho.2)

def LocOp (P : Program) (T : Nat → Option TI) (md : Bool) (ops : Array Oper) (nid : Nat) (o : Oper) (t : Tr) (D : Ds) : Prop :=
  (guardB ops D.1 o.guard = some true ∧ OpT P T md (evE D.1) D.2 nid o.op t) ∨ (guardB ops D.1 o.guard = some false ∧ t = ⟨.tup [], [], [], 0, none⟩)

/-- Two entries of one map, of other keys. -/
def insB (T : Nat → Option TI) (s t : Tr) : Bool :=
  match s.ins, t.ins with
  | some (i, kt, k, _), some (j, kt', k', _) =>
    Nat.beq i j && Nat.beq kt kt' && s.wr.isEmpty && t.wr.isEmpty && s.acc.isEmpty && t.acc.isEmpty &&
    (match eqV T 12 kt k k', eqV T 12 kt k' k with | some false, some false => ltL (encV k) (encV k') || ltL (encV k') (encV k) | _, _ => false)
  | _, _ => false
def disjB (a b : List Nat) : Bool := a.all fun p => !b.contains p

/-- Two operations that do not touch what is the other one's. -/
def indep (T : Nat → Option TI) (ops : Array Oper) (x : Oper) (s : Tr) (y : Oper) (t : Tr) : Bool :=
  x.apart ops y && ((disjB s.wrs t.accs && disjB t.wrs s.accs) || insB T s t)

theorem putE_getD {env : List V} {d : Option Tmp} {v : V} {t : Nat} (h : d ≠ some t) : (putE env d v).getD t .undef = env.getD t .undef := by
  cases d with
  | none => rfl
  | some d =>
    simp only [putE]
    rw [getD_set, if_neg (fun e => h (by rw [e.1]))]

theorem set_comm' (h : Heap) {i j : Nat} (x y : Option Blk) (hij : i ≠ j) : (h.set i x).set j y = (h.set j y).set i x := List.set_comm _ _ hij

theorem applyW_set (h : Heap) (i : Nat) (x : Option Blk) : ∀ (wr : List (Nat × Blk)), (∀ p ∈ wr, p.1 ≠ i) → applyW (h.set i x) wr = (applyW h wr).set i x := by
  intro wr
  induction wr generalizing h with
  | nil => intro _; rfl
  | cons p wr ih =>
    intro hp
    show applyW ((h.set i x).set p.1 (some p.2)) wr = (applyW (h.set p.1 (some p.2)) wr).set i x
    rw [set_comm' h x (some p.2) (fun e => hp p (by simp) e.symm), ih _ (fun q hq => hp q (by simp [hq]))]

theorem applyW_comm (h : Heap) (a b : List (Nat × Blk)) (hab : ∀ p ∈ a, ∀ q ∈ b, p.1 ≠ q.1) : applyW (applyW h a) b = applyW (applyW h b) a := by
  induction a generalizing h with
  | nil => rfl
  | cons p a ih =>
    show applyW (applyW (h.set p.1 (some p.2)) a) b = applyW ((applyW h b).set p.1 (some p.2)) a
    rw [ih _ (fun q hq => hab q (by simp [hq])), applyW_set h p.1 (some p.2) b (fun q hq => (hab p (by simp) q hq).symm)]

section
variable {P : Program} {T : Nat → Option TI} {md : Bool} {ops : Array Oper}

theorem evE_same {env env' : List V} {o : Oper} (h : ∀ t ∈ o.looksAt ops, env'.getD t .undef = env.getD t .undef) : ∀ x ∈ o.op.operands, evE env x = evE env' x := fun x hx => by
  cases x with
  | tmp t =>
    have : t ∈ o.looksAt ops := by
      unfold Oper.looksAt
      refine List.mem_append_left _ ?_
      rw [List.mem_filterMap]
      exact ⟨.tmp t, by simpa using hx, rfl⟩
    exact (h t this).symm
  | const v => rfl
  | global g => rfl
  | func f => rfl

theorem guardB_same {env env' : List V} {o : Oper} (h : ∀ t ∈ o.looksAt ops, env'.getD t .undef = env.getD t .undef) : guardB ops env' o.guard = guardB ops env o.guard := by
  unfold guardB
  split
  · rfl
  · rename_i j want hg
    split
    · rename_i d hd
      have : d ∈ o.looksAt ops := by
        unfold Oper.looksAt
        refine List.mem_append_right _ ?_
        rw [hg]
        simp [hd]
      rw [h d this]
    · rfl

theorem LocOp.local {nid : Nat} {o : Oper} {t : Tr} {D D' : Ds} (h : LocOp P T md ops nid o t D) (he : ∀ x ∈ o.looksAt ops, D'.1.getD x .undef = D.1.getD x .undef) (hh : ∀ i ∈ t.accs, hget D.2 i = hget D'.2 i) : LocOp P T md ops nid o t D' := by
  rcases h with ⟨h1, h2⟩ | ⟨h1, h2⟩
  · left
    exact ⟨by rw [guardB_same he]; exact h1, (h2.ev (evE_same he)).local hh⟩
  · right
    exact ⟨by rw [guardB_same he]; exact h1, h2⟩

theorem LocOp.wr_acc {nid : Nat} {o : Oper} {t : Tr} {D : Ds} (h : LocOp P T md ops nid o t D) : ∀ p ∈ t.wr, p.1 ∈ t.acc := by
  rcases h with ⟨_, h2⟩ | ⟨_, h2⟩
  · exact h2.wr
  · subst h2; intro p hp; cases hp

theorem applyW_pt (h : Heap) (wr : List (Nat × Blk)) (i : Nat) (hn : i ∉ wr.map fun p => p.1) : hget (applyW h wr) i = hget h i :=
  applyW_hget _ _ _ fun p hp e => hn (List.mem_map.2 ⟨p, hp, e⟩)

theorem wrT_ids {h : Heap} {t : Tr} {p : Nat × Blk} (hp : p ∈ wrT h t) : p.1 ∈ t.wrs := by
  unfold wrT at hp
  unfold Tr.wrs insIds
  split at hp
  · rename_i hi
    rw [hi]
    exact List.mem_append_right _ (List.mem_map.2 ⟨p, hp, rfl⟩)
  · rename_i hi
    rw [hi]
    split at hp
    · simp only [List.mem_singleton] at hp
      subst hp
      simp
    · cases hp

/-- An operation's effect hangs on what it touches. -/
theorem wrT_same {h h' : Heap} {t : Tr} (hh : ∀ i ∈ insIds t, hget h i = hget h' i) : wrT h t = wrT h' t := by
  unfold wrT
  unfold insIds at hh
  split
  · rfl
  · rename_i id _ _ _ hi
    rw [hh id (by rw [hi]; simp)]

theorem heap_ext' {h h' : Heap} (hl : h.length = h'.length) (hg : ∀ i, hget h i = hget h' i) : h = h' := by
  apply List.ext_getElem?
  intro i
  have := hg i
  unfold hget at this
  rcases Nat.lt_or_ge i h.length with hi | hi
  · rw [List.getElem?_eq_getElem hi, List.getElem?_eq_getElem (by omega)] at this ⊢
    simpa using this
  · rw [List.getElem?_eq_none hi, List.getElem?_eq_none (by omega)]

theorem applyW_only : ∀ (wr : List (Nat × Blk)) (h h' : Heap) (i : Nat), h.length = h'.length → i ∈ (wr.map fun p => p.1) → hget (applyW h wr) i = hget (applyW h' wr) i
  | p :: wr, h, h', i, hl, hi => by
    show hget (applyW (h.set p.1 (some p.2)) wr) i = hget (applyW (h'.set p.1 (some p.2)) wr) i
    by_cases hm : i ∈ wr.map fun p => p.1
    · exact applyW_only wr _ _ i (by simpa using hl) hm
    · rw [applyW_pt _ _ _ hm, applyW_pt _ _ _ hm]
      simp only [List.map_cons, List.mem_cons] at hi
      rcases hi with hi | hi
      · rw [hget_set, hget_set, ← hi, hl]
        by_cases hq : i < h'.length
        · rw [if_pos ⟨rfl, hq⟩, if_pos ⟨rfl, hq⟩]
        · rw [if_neg (fun e => hq e.2), if_neg (fun e => hq e.2)]
          unfold hget
          rw [List.getElem?_eq_none (by omega), List.getElem?_eq_none (by omega)]
      · exact absurd hi hm

theorem disjB_spec {a b : List Nat} (h : disjB a b = true) {i : Nat} (hi : i ∈ a) : i ∉ b := by
  unfold disjB at h
  rw [List.all_eq_true] at h
  have := h i hi
  simpa using this

/-- Effects that touch nothing of each other commute. -/
theorem eff_comm {h : Heap} {s t : Tr} (h1 : disjB s.wrs t.accs = true) (h2 : disjB t.wrs s.accs = true) (ht : ∀ p ∈ t.wr, p.1 ∈ t.acc) :
    applyW (applyW h (wrT h s)) (wrT (applyW h (wrT h s)) t) = applyW (applyW h (wrT h t)) (wrT (applyW h (wrT h t)) s) := by
  have keep : ∀ (s t : Tr) (h : Heap), disjB s.wrs t.accs = true → wrT (applyW h (wrT h s)) t = wrT h t := fun s t h hd => wrT_same fun i hi => by
    refine applyW_hget _ _ _ fun p hp e => ?_
    have := disjB_spec hd (wrT_ids hp)
    exact this (by rw [e]; exact List.mem_append_left _ hi)
  rw [keep s t h h1, keep t s h h2]
  refine applyW_comm h _ _ fun p hp q hq e => ?_
  have g1 := wrT_ids hp
  have g2 := wrT_ids hq
  refine disjB_spec h1 g1 ?_
  rw [e]
  unfold Tr.wrs at g2
  unfold Tr.accs
  rcases List.mem_append.1 g2 with g | g
  · exact List.mem_append_left _ g
  · obtain ⟨r, hr, hr2⟩ := List.mem_map.1 g
    exact List.mem_append_right _ (hr2 ▸ ht r hr)

theorem ltL_irr : ∀ (a b : List Nat), ltL a b = true → ltL b a = false
  | [], [], h => by cases h
  | [], _ :: _, _ => rfl
  | _ :: _, [], h => by cases h
  | x :: xs, y :: ys, h => by
    simp only [ltL] at h ⊢
    cases h1 : Nat.blt x y with
    | true =>
      have : Nat.blt y x = false := by
        cases h2 : Nat.blt y x with
        | false => rfl
        | true => simp only [Nat.blt_eq] at h1 h2; omega
      rw [this]; rfl
    | false =>
      rw [h1] at h
      cases h2 : Nat.blt y x with
      | true => rw [h2] at h; cases h
      | false =>
        rw [h2] at h
        exact ltL_irr xs ys h

theorem ltL_trans : ∀ (a b c : List Nat), ltL a b = true → ltL b c = true → ltL a c = true
  | [], [], _, h, _ => by cases h
  | [], _ :: _, [], _, h => by cases h
  | [], _ :: _, _ :: _, _, _ => rfl
  | _ :: _, [], _, h, _ => by cases h
  | _ :: _, _ :: _, [], _, h => by cases h
  | x :: xs, y :: ys, z :: zs, h, g => by
    simp only [ltL] at h g ⊢
    cases h1 : Nat.blt x y with
    | true =>
      cases g1 : Nat.blt y z with
      | true =>
        have : Nat.blt x z = true := by simp only [Nat.blt_eq] at *; omega
        rw [this]; rfl
      | false =>
        rw [g1] at g
        cases g2 : Nat.blt z y with
        | true => rw [g2] at g; cases g
        | false =>
          have e : y = z := by
            have a1 : ¬ y < z := fun h' => by rw [← Nat.blt_eq] at h'; rw [h'] at g1; cases g1
            have a2 : ¬ z < y := fun h' => by rw [← Nat.blt_eq] at h'; rw [h'] at g2; cases g2
            omega
          subst e
          rw [h1]; rfl
    | false =>
      rw [h1] at h
      cases h2 : Nat.blt y x with
      | true => rw [h2] at h; cases h
      | false =>
        rw [h2] at h
        have e : x = y := by
          have a1 : ¬ x < y := fun h' => by rw [← Nat.blt_eq] at h'; rw [h'] at h1; cases h1
          have a2 : ¬ y < x := fun h' => by rw [← Nat.blt_eq] at h'; rw [h'] at h2; cases h2
          omega
        subst e
        cases g1 : Nat.blt x z with
        | true => rfl
        | false =>
          rw [g1] at g
          cases g2 : Nat.blt z x with
          | true => rw [g2] at g; cases g
          | false =>
            rw [g2] at g
            exact ltL_trans xs ys zs h g

theorem insK_comm1 {a b va vb : V} (hab : ltL (encV a) (encV b) = true) : ∀ (l : List (V × V)), insK a va (insK b vb l) = insK b vb (insK a va l)
  | [] => by simp only [insK, hab, ltL_irr _ _ hab, cond_true, cond_false]
  | e :: l => by
    have hba := ltL_irr _ _ hab
    cases h1 : ltL (encV b) (encV e.1) with
    | true =>
      have h2 : ltL (encV a) (encV e.1) = true := ltL_trans _ _ _ hab h1
      simp only [insK, h1, h2, hab, hba, cond_true, cond_false]
    | false =>
      cases h2 : ltL (encV a) (encV e.1) with
      | true => simp only [insK, h1, h2, hba, cond_true, cond_false]
      | false => simp only [insK, h1, h2, cond_false, insK_comm1 hab l]
theorem insK_comm {a b va vb : V} (h : (ltL (encV a) (encV b) || ltL (encV b) (encV a)) = true) (l : List (V × V)) : insK a va (insK b vb l) = insK b vb (insK a va l) := by
  rcases Bool.or_eq_true _ _ ▸ h with h | h
  · exact insK_comm1 h l
  · exact (insK_comm1 h l).symm

theorem hits_ins {kt : Nat} {k k' v' : V} {es : List (V × V)} : hitsV T kt k (insK k' v' es) = some [] ↔ hitsV T kt k es = some [] ∧ eqV T 12 kt k k' = some false := by
  have cons : hitsV T kt k ((k', v') :: es) = some [] ↔ hitsV T kt k es = some [] ∧ eqV T 12 kt k k' = some false := by
    simp only [hitsV]
    generalize eqV T 12 kt k k' = b
    generalize hitsV T kt k es = m
    cases b with
    | none => simp
    | some b => cases m with
      | none => cases b <;> simp
      | some m => cases b <;> simp
  have hp : ((k', v') :: es).Perm (insK k' v' es) := .trans (by simpa using (List.perm_append_comm (l₁ := [(k', v')]) (l₂ := es))) (insK_perm k' v' es)
  rw [← cons]
  constructor
  · intro h
    obtain ⟨a, g1, g2⟩ := hits_perm hp.symm h
    rw [List.nil_perm.1 g2] at g1
    exact g1
  · intro h
    obtain ⟨a, g1, g2⟩ := hits_perm hp h
    rw [List.nil_perm.1 g2] at g1
    exact g1

theorem loc_before {n1 n2 : Nat} {x y : Oper} {s t : Tr} (hi : indep T ops x s y t = true) {D : Ds} (hx : LocOp P T md ops n1 x s D) (hy : LocOp P T md ops n2 y t (Dapp x s D)) :
    LocOp P T md ops n2 y t D ∧ LocOp P T md ops n1 x s (Dapp y t D) ∧ Dapp y t (Dapp x s D) = Dapp x s (Dapp y t D) := by
  simp only [indep, Bool.and_eq_true, Bool.or_eq_true] at hi
  obtain ⟨ha, hi⟩ := hi
  obtain ⟨h1, h2, h3⟩ := Oper.apart_spec ha
  have hput : putE (putE D.1 x.dst s.v) y.dst t.v = putE (putE D.1 y.dst t.v) x.dst s.v := by
    cases hxd : x.dst with
    | none => rfl
    | some d =>
      cases hyd : y.dst with
      | none => rfl
      | some e =>
        have hne : d ≠ e := fun e' => h2 d hxd (by rw [hyd, e'])
        simp only [putE]
        exact List.set_comm _ _ hne
  have hex : ∀ z ∈ y.looksAt ops, D.1.getD z .undef = (putE D.1 x.dst s.v).getD z .undef := fun z hz => by rw [putE_getD (fun e => h1 z e hz)]
  have hey : ∀ z ∈ x.looksAt ops, (putE D.1 y.dst t.v).getD z .undef = D.1.getD z .undef := fun z hz => by rw [putE_getD (fun e => h3 z e hz)]
  rcases hi with ⟨d1, d2⟩ | hins
  · have l1 : LocOp P T md ops n2 y t D := hy.local hex (fun i hi' => by
      show hget (applyW D.2 (wrT D.2 s)) i = hget D.2 i
      exact applyW_hget _ _ _ (fun p hp e => disjB_spec d1 (wrT_ids hp) (e ▸ hi')))
    refine ⟨l1, hx.local hey (fun i hi' => ?_), ?_⟩
    · show hget D.2 i = hget (applyW D.2 (wrT D.2 t)) i
      rw [applyW_hget _ _ _ (fun p hp e => disjB_spec d2 (wrT_ids hp) (e ▸ hi'))]
    · simp only [Dapp]
      rw [hput, eff_comm d1 d2 l1.wr_acc]
  · unfold insB at hins
    split at hins
    · rename_i i kt k v j kt' k' v' hs ht
      simp only [Bool.and_eq_true, List.isEmpty_iff] at hins
      obtain ⟨⟨⟨⟨⟨⟨e1, e2⟩, e3⟩, e4⟩, e5⟩, e6⟩, e7⟩ := hins
      have e1 := Nat.eq_of_beq_eq_true e1
      have e2 := Nat.eq_of_beq_eq_true e2
      subst e1; subst e2
      split at e7
      · rename_i q1 q2
        -- both insert
        have insOf : ∀ {n : Nat} {o : Oper} {u : Tr} {D : Ds} {i kt : Nat} {k v : V}, LocOp P T md ops n o u D → u.ins = some (i, kt, k, v) → ∃ es clock, hget D.2 i = some (.mapc es clock) ∧ hitsV T kt k es = some [] := fun {n o u D i kt k v} hl hu => by
          rcases hl with ⟨_, ho⟩ | ⟨_, ho⟩
          · obtain ⟨dst, op, ty, pos, after, g⟩ := o
            cases op
            case insert mt m k0 v0 =>
              simp only [OpT] at ho
              obtain ⟨ti, kt0, e, id, es, clock, a1, a2, a3, a4, a5, a6, rfl⟩ := ho
              simp only [Option.some.injEq, Prod.mk.injEq] at hu
              obtain ⟨rfl, rfl, rfl, rfl⟩ := hu
              exact ⟨es, clock, a5, a6⟩
            case call c =>
              simp only [OpT] at ho
              split at ho
              · split at ho
                · rw [ho.1] at hu; cases hu
                · rw [ho.1] at hu; cases hu
                · exact ho.elim
              · exact ho.elim
              · rw [ho.1] at hu; cases hu
            all_goals (simp only [OpT] at ho; rw [ho.1] at hu; cases hu)
          · rw [ho] at hu; cases hu
        have move : ∀ {n : Nat} {o : Oper} {u : Tr} {D D' : Ds} {i kt : Nat} {k v : V} {es' : List (V × V)} {clock' : Nat}, LocOp P T md ops n o u D → u.ins = some (i, kt, k, v) → (∀ z ∈ o.looksAt ops, D'.1.getD z .undef = D.1.getD z .undef) → hget D'.2 i = some (.mapc es' clock') → hitsV T kt k es' = some [] → LocOp P T md ops n o u D' := fun {n o u D D' i kt k v es' clock'} hl hu he hg hh => by
          rcases hl with ⟨hg0, ho⟩ | ⟨_, ho⟩
          · refine .inl ⟨by rw [guardB_same he]; exact hg0, ?_⟩
            have ho := ho.ev (evE_same he)
            obtain ⟨dst, op, ty, pos, after, g⟩ := o
            cases op
            case insert mt m k0 v0 =>
              simp only [OpT] at ho ⊢
              obtain ⟨ti, kt0, e, id, es, clock, a1, a2, a3, a4, a5, a6, rfl⟩ := ho
              simp only [Option.some.injEq, Prod.mk.injEq] at hu
              obtain ⟨rfl, rfl, rfl, rfl⟩ := hu
              exact ⟨ti, kt0, e, id, es', clock', a1, a2, a3, a4, hg, hh, rfl⟩
            case call c =>
              simp only [OpT] at ho
              split at ho
              · split at ho
                · rw [ho.1] at hu; cases hu
                · rw [ho.1] at hu; cases hu
                · exact ho.elim
              · exact ho.elim
              · rw [ho.1] at hu; cases hu
            all_goals (simp only [OpT] at ho; rw [ho.1] at hu; cases hu)
          · rw [ho] at hu; cases hu
        obtain ⟨es, clock, g1, g2⟩ := insOf hx hs
        have hil : i < D.2.length := by
          rcases Nat.lt_or_ge i D.2.length with h' | h'
          · exact h'
          · unfold hget at g1; rw [List.getElem?_eq_none h'] at g1; cases g1
        have ws : wrT D.2 s = [(i, .mapc (insK k v es) (clock + 1))] := by unfold wrT; rw [hs]; simp only [g1]
        have wt : wrT D.2 t = [(i, .mapc (insK k' v' es) (clock + 1))] := by unfold wrT; rw [ht]; simp only [g1]
        have hgs : hget (applyW D.2 (wrT D.2 s)) i = some (.mapc (insK k v es) (clock + 1)) := by rw [ws]; simp only [applyW, List.foldl_cons, List.foldl_nil]; rw [hget_set, if_pos ⟨rfl, hil⟩]
        have hgt : hget (applyW D.2 (wrT D.2 t)) i = some (.mapc (insK k' v' es) (clock + 1)) := by rw [wt]; simp only [applyW, List.foldl_cons, List.foldl_nil]; rw [hget_set, if_pos ⟨rfl, hil⟩]
        obtain ⟨es2, clock2, g3, g4⟩ := insOf hy ht
        have g3' : hget (Dapp x s D).2 i = some (.mapc (insK k v es) (clock + 1)) := hgs
        rw [g3'] at g3
        simp only [Option.some.injEq, Blk.mapc.injEq] at g3
        obtain ⟨rfl, rfl⟩ := g3
        have g5 := (hits_ins.1 g4).1
        refine ⟨move hy ht hex g1 g5, move hx hs hey hgt (hits_ins.2 ⟨g2, q1⟩), ?_⟩
        have w1 : wrT (applyW D.2 (wrT D.2 s)) t = [(i, .mapc (insK k' v' (insK k v es)) (clock + 1 + 1))] := by
          unfold wrT at hgs ⊢; rw [ht]; simp only [hgs]
        have w2 : wrT (applyW D.2 (wrT D.2 t)) s = [(i, .mapc (insK k v (insK k' v' es)) (clock + 1 + 1))] := by
          unfold wrT at hgt ⊢; rw [hs]; simp only [hgt]
        simp only [Dapp]
        rw [hput, w1, w2, ws, wt, insK_comm e7]
        simp only [applyW, List.foldl_cons, List.foldl_nil, List.set_set]
      · cases e7
    · cases hins

/-- Whatever order is picked. -/
def anyD (P : Program) (T : Nat → Option TI) (md : Bool) (ops : Array Oper) (pos : Nat → Nat) (tr : Nat → Tr) (Q : Ds → Prop) : Nat → Array Bool → Ds → Prop
  | 0, listed, D => Region.ready .any ops listed = [] ∧ Q D
  | fuel + 1, listed, D =>
    (Region.ready .any ops listed = [] → Q D) ∧
    ∀ i ∈ Region.ready .any ops listed, ∀ o, ops[i]? = some o → LocOp P T md ops (pos i) o (tr i) D ∧ anyD P T md ops pos tr Q fuel (listed.setIfInBounds i true) (Dapp o (tr i) D)

/-- What is listed waits for nothing. -/
def dc (ops : Array Oper) (listed : Array Bool) : Prop := ∀ j o, ops[j]? = some o → listed.getD j false = true → ∀ e ∈ o.after, Region.binds .any e = true → listed.getD e.on false = true

/-- A list of those that each waits for, and those that these wait for. -/
def clOk (ops : Array Oper) (cl : Nat → List Nat) : Prop := ∀ j o, ops[j]? = some o → ∀ i ∈ cl j, ∃ e ∈ o.after, Region.binds .any e = true ∧ e.on < j ∧ (e.on = i ∨ i ∈ cl e.on)

theorem cl_listed {cl : Nat → List Nat} (hcl : clOk ops cl) {listed : Array Bool} (hdc : dc ops listed) {i : Nat} : ∀ (j : Nat) (o : Oper), ops[j]? = some o → (∀ e ∈ o.after, Region.binds .any e = true → listed.getD e.on false = true) → i ∈ cl j → listed.getD i false = true := by
  intro j
  induction j using Nat.strongRecOn with
  | _ j ih =>
    intro o ho hall hi
    obtain ⟨e, he, hb, hlt, h⟩ := hcl j o ho i hi
    have hl := hall e he hb
    rcases h with h | h
    · rw [← h]; exact hl
    · have hsz : j < ops.size := (Array.getElem?_eq_some_iff.1 ho).1
      have he' : ops[e.on]? = some ops[e.on] := Array.getElem?_eq_getElem (by omega)
      exact ih e.on hlt ops[e.on] he' (fun e2 h2 hb2 => hdc e.on _ he' hl e2 h2 hb2) h

theorem listed_tt {listed : Array Bool} {i : Nat} (h : listed.getD i true = false) : listed.getD i false = false := by
  rcases Nat.lt_or_ge i listed.size with h' | h'
  · simpa [h'] using h
  · simp [Array.getElem?_eq_none h'] at h

theorem anyD_first {pos : Nat → Nat} {tr : Nat → Tr} {cl : Nat → List Nat} (hcl : clOk ops cl) {Q : Ds → Prop} {i : Nat} {oi : Oper} (hi : ops[i]? = some oi) : ∀ (fuel : Nat) (listed : Array Bool) (D : Ds),
    (∀ j oj, ops[j]? = some oj → j ≠ i → listed.getD j true = false → i ∉ cl j → indep T ops oi (tr i) oj (tr j) = true) → dc ops listed → i ∈ Region.ready .any ops listed → LocOp P T md ops (pos i) oi (tr i) D →
    anyD P T md ops pos tr Q fuel (listed.setIfInBounds i true) (Dapp oi (tr i) D) → anyD P T md ops pos tr Q (fuel + 1) listed D := by
  intro fuel
  induction fuel with
  | zero =>
    intro listed D _ _ hr hloc H
    refine ⟨fun h => (by rw [h] at hr; cases hr), fun j hj o ho => ?_⟩
    by_cases hji : j = i
    · subst hji
      rw [hi] at ho
      simp only [Option.some.injEq] at ho
      subst ho
      exact ⟨hloc, H⟩
    · have := ready_mono hj hji
      rw [H.1] at this
      cases this
  | succ fuel ih =>
    intro listed D hfree hdc hr hloc H
    refine ⟨fun h => (by rw [h] at hr; cases hr), fun j hj o ho => ?_⟩
    by_cases hji : j = i
    · subst hji
      rw [hi] at ho
      simp only [Option.some.injEq] at ho
      subst ho
      exact ⟨hloc, H⟩
    · obtain ⟨hjun, oj, hoj, hall⟩ := mem_ready.1 hj
      have hoj' : oj = o := by rw [ho] at hoj; simpa using hoj.symm
      subst hoj'
      have hnot : i ∉ cl j := fun hc => by
        have h1 := cl_listed hcl hdc j oj hoj hall hc
        have h2 := listed_tt (mem_ready.1 hr).1
        rw [h1] at h2; cases h2
      have hind := hfree j oj hoj hji hjun hnot
      obtain ⟨k1, k2⟩ := H.2 j (ready_mono hj hji) oj hoj
      obtain ⟨l1, l2, l3⟩ := loc_before hind hloc k1
      refine ⟨l1, ih (listed.setIfInBounds j true) (Dapp oj (tr j) D) (fun k ok hk hki hun hno => hfree k ok hk hki ?_ hno) (fun k ok hk hkl e he hb => ?_) (ready_mono hr (Ne.symm hji)) l2 ?_⟩
      · by_cases hjk : j = k
        · subst hjk; exact hjun
        · rwa [getD_set_ne true hjk] at hun
      · by_cases hjk : j = k
        · subst hjk
          rw [hoj] at hk
          simp only [Option.some.injEq] at hk
          subst hk
          exact getD_set_true (hall e he hb)
        · rw [getD_set_ne false hjk] at hkl
          exact getD_set_true (hdc k ok hk hkl e he hb)
      · rw [Array.setIfInBounds_comm _ _ hji, ← l3]
        exact k2

/-- In the order of the text. -/
def LexD (P : Program) (T : Nat → Option TI) (md : Bool) (ops : Array Oper) (pos : Nat → Nat) (tr : Nat → Tr) (Q : Ds → Prop) : List Oper → Nat → Ds → Prop
  | [], _, D => Q D
  | o :: l, k, D => LocOp P T md ops (pos k) o (tr k) D ∧ LexD P T md ops pos tr Q l (k + 1) (Dapp o (tr k) D)

theorem anyD_lex {pos : Nat → Nat} {tr : Nat → Tr} {cl : Nat → List Nat} (hcl : clOk ops cl) {Q : Ds → Prop} (hback : ∀ j o, ops[j]? = some o → ∀ e ∈ o.after, Region.binds .any e = true → e.on < j)
    (hind : ∀ i j oi oj, i < j → ops[i]? = some oi → ops[j]? = some oj → i ∉ cl j → indep T ops oi (tr i) oj (tr j) = true) : ∀ (l : List Oper) (k : Nat) (listed : Array Bool) (D : Ds), (∀ m, l[m]? = ops[k + m]?) → (∀ m, m < ops.size → listed.getD m false = decide (m < k)) → listed.size = ops.size →
    LexD P T md ops pos tr Q l k D → anyD P T md ops pos tr Q l.length listed D
  | [], k, listed, D, hl, hlist, hsz, h => by
    have hk : ops.size ≤ k := by
      have := hl 0
      simp at this
      omega
    have hr : Region.ready .any ops listed = [] := by
      rw [List.eq_nil_iff_forall_not_mem]
      intro i hi
      obtain ⟨h1, o, ho, _⟩ := mem_ready.1 hi
      have hi' := (Array.getElem?_eq_some_iff.1 ho).1
      have h2 := hlist i hi'
      rw [listed_tt h1] at h2
      simp at h2
      omega
    exact ⟨hr, h⟩
  | o :: l, k, listed, D, hl, hlist, hsz, h => by
    obtain ⟨h1, h2⟩ := h
    have hk : ops[k]? = some o := by simpa using (hl 0).symm
    have hkl := (Array.getElem?_eq_some_iff.1 hk).1
    have htt : ∀ m, m < ops.size → listed.getD m true = listed.getD m false := fun m hm => by simp [hsz, hm]
    refine anyD_first hcl hk l.length listed D (fun j oj hoj hjk hun hno => ?_) (fun j oj hoj hjl e he hb => ?_) (mem_ready.2 ⟨?_, o, hk, fun e he hb => ?_⟩) h1 (anyD_lex hcl hback hind l (k + 1) _ _ (fun m => by have := hl (m + 1); simpa [Nat.add_assoc, Nat.add_comm 1 m] using this) (fun m hm => ?_) (by simpa using hsz) h2)
    · have hj := (Array.getElem?_eq_some_iff.1 hoj).1
      rw [htt j hj, hlist j hj] at hun
      simp at hun
      exact hind k j o oj (by omega) hk hoj hno
    · have hj := (Array.getElem?_eq_some_iff.1 hoj).1
      rw [hlist j hj] at hjl
      simp at hjl
      have := hback j oj hoj e he hb
      rw [hlist e.on (by omega)]
      simp; omega
    · rw [htt k hkl, hlist k hkl]; simp
    · have := hback k o hk e he hb
      rw [hlist e.on (by omega)]
      simpa using this
    · by_cases hmk : k = m
      · subst hmk
        have : (listed.setIfInBounds k true).getD k false = true := by simp [hsz, hkl]
        rw [this]; simp
      · rw [getD_set_ne false hmk, hlist m hm]
        have : (m < k) ↔ (m < k + 1) := by omega
        simp [this]
end
end Go.Cx
