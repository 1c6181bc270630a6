/- A calculus for calls of the program: canonical values and heaps, and what each operation, loop and call does to them; no condition on the program. -/
import Derived.Test.YtifdekgmoekegaaDoorCx7r
namespace Go.Cx
open Go.RowKit

theorem wp_value {P : Program} {w w' : World} {R : Value → World → Prop} {a : Act} {o : Oper} {cv : Value} (Q : Exit → Act → World → Prop) (hx : (execOp a.eval o).run P w = .ok (.value cv) w') (hd : R cv w') :
    o.wp P a w (fun a' w' => ∃ cv, a' = a.put o.dst cv ∧ R cv w') Q := by
  unfold Oper.wp
  rw [hx, Oper.upon_value]
  exact ⟨cv, rfl, hd⟩
theorem wp_skipped {P : Program} {w w' : World} {R : Value → World → Prop} {a : Act} {o : Oper} (Q : Exit → Act → World → Prop) (hx : (execOp a.eval o).run P w = .ok .skip w') (hd : R Go.undef w') :
    o.wp P a w (fun a' w' => ∃ cv, a' = a.put o.dst cv ∧ R cv w') Q := by
  unfold Oper.wp
  rw [hx, Oper.upon_skip]
  exact ⟨Go.undef, rfl, hd⟩
theorem RvA.toL {φ : Phi} {μ : Mu} {xs : List V} {a : Array Value} (h : RvA φ μ xs a) : RvL φ μ xs a :=
  ⟨h.1, fun j => by
    by_cases hj : j < xs.length
    · exact h.2 j hj
    · have : xs.getD j .undef = .undef := by simp [List.getElem?_eq_none (Nat.le_of_not_lt hj)]
      rw [this]; exact .undef _ _⟩


theorem hget_pad (h : Heap) (n i : Nat) : hget (h ++ List.replicate n none) i = hget h i := by
  unfold hget
  rcases Nat.lt_or_ge i h.length with hi | hi
  · rw [List.getElem?_append_left hi]
  · rw [List.getElem?_append_right hi, List.getElem?_eq_none (l := h) hi, List.getElem?_replicate]
    split <;> rfl

theorem Rel.pad {φ : Phi} {μ : Mu} {B : Nat} {h : Heap} {w w' : World} (r : Rel φ μ B h w) (hw : w'.heap = w.heap) (n : Nat) : Rel φ μ B (h ++ List.replicate n none) w' := by
  refine ⟨r.glob, fun b o v hc => ?_, fun b n hn => by rw [hw]; exact r.size b n hn, r.inj, fun i b x hi => ?_, fun i k hk => ?_⟩
  · rw [← r.cell b o v hc]; simp only [World.cell?, hw]
  · have := r.dom i b x hi
    rw [hw]
    exact ⟨by simp; omega, this.2⟩
  · rw [hget_pad] at hk
    obtain ⟨b, x, h1, h2⟩ := r.blk i k hk
    exact ⟨b, x, h1, h2.mono φ.le_refl (Mu.le_refl _) (by rw [hw]) (fun _ _ h => h)⟩

def forceB {β : Type} (x : Option Blk) (k : Option Blk → β) : β :=
  match x with
  | none => k none
  | some (.cells e cs) => fl2 cs fun cs => k (some (.cells e cs))
  | some (.token a b) => k (some (.token a b))
  | some (.grow v e sz cs) => fl2 cs fun cs => k (some (.grow v e sz cs))
  | some .dead => k (some .dead)
  | some (.siter s p) => k (some (.siter s p))
  | some (.miter a b c d) => k (some (.miter a b c d))
  | some (.map es c) => k (some (.map es c))
  | some (.mapc es c) => k (some (.mapc es c))
  | some (.loop env ps a b st p) => fl2 env fun env => k (some (.loop env ps a b st p))
theorem forceB_eq {β : Type} (x : Option Blk) (k : Option Blk → β) : forceB x k = k x := by
  unfold forceB
  split <;> simp [fl2_eq]
def forceH {β : Type} : Heap → (Heap → β) → β
  | [], k => k []
  | x :: xs, k => forceB x fun x => forceH xs fun ys => k (x :: ys)
theorem forceH_eq {β : Type} : ∀ (h : Heap) (k : Heap → β), forceH h k = k h
  | [], _ => rfl
  | x :: xs, k => by rw [forceH, forceB_eq, forceH_eq xs]

def putE (env : List V) (d : Option Tmp) (v : V) : List V :=
  match d with
  | some d => env.set d v
  | none => env

/-- Both ways of a test. -/
inductive BCase (b : Bool) (X Y : Prop) : Prop where
  | mk (t : b = true → X) (f : b = false → Y)
theorem BCase.yes {b : Bool} {X Y : Prop} (h : b = true) (x : X) : BCase b X Y := ⟨fun _ => x, fun e => by rw [h] at e; cases e⟩
theorem BCase.no {b : Bool} {X Y : Prop} (h : b = false) (y : Y) : BCase b X Y := ⟨fun e => (by rw [h] at e; cases e), fun _ => y⟩

def guardP (all : List Oper) (env : List V) (g : Option (Nat × Bool)) (run skip : Prop) : Prop :=
  match g with
  | none => run
  | some (j, want) =>
    match all[j]? with
    | some oj =>
      (match oj.dst with
      | some d => (match env.getD d .undef, want with | .bool b, true => BCase b run skip | .bool b, false => BCase b skip run | .tup [], _ => skip | _, _ => False)
      | none => False)
    | none => False

/-- The same; what is known of the test behind it is written into the temporary. -/
def guardN (all : List Oper) (env : List V) (g : Option (Nat × Bool)) (run skip : List V → Prop) : Prop :=
  match g with
  | none => run env
  | some (j, want) =>
    match all[j]? with
    | some oj =>
      (match oj.dst with
      | some d => (match env.getD d .undef, want with
        | .bool b, true => BCase b (forceL (env.set d (.bool true)) run) (forceL (env.set d (.bool false)) skip)
        | .bool b, false => BCase b (forceL (env.set d (.bool true)) skip) (forceL (env.set d (.bool false)) run)
        | .tup [], _ => skip env
        | _, _ => False)
      | none => False)
    | none => False

theorem set_same {env : List V} {d : Nat} {b : Bool} (h : env.getD d .undef = .bool b) : env.set d (.bool b) = env := by
  rw [List.getD_eq_getElem?_getD] at h
  rcases Nat.lt_or_ge d env.length with hd | hd
  · rw [List.getElem?_eq_getElem hd] at h
    simp only [Option.getD_some] at h
    rw [← h]
    exact List.set_getElem_self hd
  · rw [List.getElem?_eq_none hd] at h
    cases h

theorem guardN_old {all : List Oper} {env : List V} {g : Option (Nat × Bool)} {run skip : List V → Prop} (hk : guardN all env g run skip) : guardP all env g (run env) (skip env) := by
  unfold guardN at hk
  unfold guardP
  split at hk
  · exact hk
  · split at hk
    · split at hk
      · split at hk
        · rename_i b hb
          simp only [forceL_eq] at hk
          refine ⟨fun e => ?_, fun e => ?_⟩
          · subst e; have := hk.1 rfl; rwa [set_same hb] at this
          · subst e; have := hk.2 rfl; rwa [set_same hb] at this
        · rename_i b hb
          simp only [forceL_eq] at hk
          refine ⟨fun e => ?_, fun e => ?_⟩
          · subst e; have := hk.1 rfl; rwa [set_same hb] at this
          · subst e; have := hk.2 rfl; rwa [set_same hb] at this
        · exact hk
        · exact hk.elim
      · exact hk.elim
    · exact hk.elim

theorem guardN_mono {all : List Oper} {env : List V} {g : Option (Nat × Bool)} {a a' b b' : List V → Prop} (h1 : ∀ e, a e → a' e) (h2 : ∀ e, b e → b' e) (hk : guardN all env g a b) : guardN all env g a' b' := by
  unfold guardN at hk ⊢
  split at hk
  · exact h1 _ hk
  · split at hk
    · split at hk
      · split at hk
        · simp only [forceL_eq] at hk ⊢
          exact ⟨fun e => h1 _ (hk.1 e), fun e => h2 _ (hk.2 e)⟩
        · simp only [forceL_eq] at hk ⊢
          exact ⟨fun e => h2 _ (hk.1 e), fun e => h1 _ (hk.2 e)⟩
        · exact h2 _ hk
        · exact hk.elim
      · exact hk.elim
    · exact hk.elim

/-- A call of yield: a round of the loop, to its end. -/
structure RoundP (P : Program) (id : Nat) (args : List V) (h : Heap) (K : V → Heap → Prop) : Prop where
  run : ∀ (φ : Phi) (μ : Mu) (B : Nat) (w : World) (cargs : Array Value) (b : Nat), B ≤ w.heap.size → Rel φ μ B h w → RvL φ μ args cargs → μ id = some (b, none) →
    ∃ f tmps assign body, (Instr.yield b cargs).run P w = .ok (.round b f tmps assign body) w ∧ RoundIn Fence.wide 0 P b f tmps assign body w (Ret φ μ B w K)

/-- One operation, by its outcome. -/
def opN (P : Program) (T : Nat → Option TI) (md : Bool) (ev : Operand → V) (h : Heap) (K : V → Heap → Prop) (op : Op) : Prop :=
  natL h.length fun nid => match opF P T md ev (hget h) nid op with
    | some o => cond o.c (K o.v (applyW (h ++ List.replicate o.nw none) o.wr)) False
    | none => False

/-- What a map's iterator may come to next: any entry that it has not come to. -/
def nextP (x : V) (h : Heap) (K : V → Heap → Prop) : Prop :=
  match x with
  | .ptr i 0 =>
    (match hget h i with
    | some (.miter mid since seen last) =>
      (match hget h mid with
      | some (.map es clock) =>
        cond (Nat.beq since clock && Nat.beq last clock && es.all fun e => Nat.blt e.2.2 clock)
          (match es.filter fun e => !seen.contains e.2.2 with
          | [] => K (.tup [.bool false]) h
          | e :: l => ∀ e' ∈ e :: l, K (.tup [.bool true, e'.1, e'.2.1]) (h.set i (some (.miter mid since (seen ++ [e'.2.2]) clock)))) False
      | _ => False)
    | _ => False)
  | _ => False

def idxOk (T : Nat → Option TI) (t sz : Nat) : Bool :=
  match T t with
  | some ti => (match ti.k with | .slice e => (match T e with | some ei => sz == ei.size | none => false) | _ => false)
  | none => false

def opY (P : Program) (T : Nat → Option TI) (md : Bool) (ev : Operand → V) (h : Heap) (K : V → Heap → Prop) (op : Op) : Prop :=
  match op with
  | .call c =>
    (match c.callee with
    | .value f => (match ev f with
      | .fn (.func g) first caps => fl2 (first ++ (c.args.toList.map ev) ++ caps) fun args => Sem P g args h K
      | .yld id => fl2 (c.args.toList.map ev) fun args => RoundP P id args h K
      | _ => False)
    | .invoke _ _ => False
    | .builtin _ => opN P T md ev h K (.call c))
  | .next it false => nextP (ev it) h K
  | .indexAddr t x i => (match ev x, ev i with
    | .psl sz xs _, .int _ n => ∃ cs, (0 ≤ n ∧ xs[n.toNat]? = some cs) ∧ cond (idxOk T t sz) (K (.iptr cs) h) False
    | _, _ => opN P T md ev h K (.indexAddr t x i))
  | op => opN P T md ev h K op

def stepP (P : Program) (T : Nat → Option TI) (md : Bool) (all : List Oper) (o : Oper) (env : List V) (h : Heap) (J : List V → Heap → Prop) : Prop :=
  guardN all env o.guard
    (fun env => opY P T md (evE env) h (fun v h' => v.force fun v => forceL (putE env o.dst v) fun env' => forceH h' fun h' => J env' h') o.op)
    (fun env => forceL (putE env o.dst (.tup [])) fun env' => J env' h)

/-- By the recursor itself: so a kernel's term of what is left is the elaborator's. -/
def regP (P : Program) (T : Nat → Option TI) (md : Bool) (all l : List Oper) : List V → Heap → (List V → Heap → Prop) → Prop :=
  List.rec (motive := fun _ => List V → Heap → (List V → Heap → Prop) → Prop) (fun env h K => K env h) (fun o _ ih env h K => stepP P T md all o env h fun env' h' => ih env' h' K) l
theorem regP_cons {P : Program} {T : Nat → Option TI} {md : Bool} {all : List Oper} {o : Oper} {rest : List Oper} {env : List V} {h : Heap} {K : List V → Heap → Prop} : regP P T md all (o :: rest) env h K = stepP P T md all o env h fun env' h' => regP P T md all rest env' h' K := rfl

inductive X where
  | normal
  | exit (id : Nat)
  | ret
def X.toExit : X → Exit
  | .normal => .normal
  | .exit id => .exit id
  | .ret => .ret

/-! Forgetting: temporaries may be struck, and blocks from some number on. -/
def V.under1 (m : Nat) : V → Bool
  | .ptr i _ => Nat.blt i m
  | .gptr i _ _ => Nat.blt i m
  | .gsl i _ _ _ _ _ _ => Nat.blt i m
  | .lsl i _ _ _ _ => Nat.blt i m
  | .map i => Nat.blt i m
  | .yld i => Nat.blt i m
  | .psl _ _ (.own i) => Nat.blt i m
  | .fn _ _ _ => false
  | .agg _ => false
  | .tup _ => false
  | _ => true
def V.under2 (m : Nat) : V → Bool
  | .fn _ a b => a.all (V.under1 m) && b.all (V.under1 m)
  | .agg cs => cs.all (V.under1 m)
  | .tup cs => cs.all (V.under1 m)
  | v => v.under1 m
def V.under (m : Nat) : V → Bool
  | .fn _ a b => a.all (V.under2 m) && b.all (V.under2 m)
  | .agg cs => cs.all (V.under2 m)
  | .tup cs => cs.all (V.under2 m)
  | v => v.under1 m
def Blk.under (m : Nat) : Option Blk → Bool
  | some (.cells _ cs) => cs.all (V.under m)
  | some (.token ..) => true
  | some (.grow _ _ _ cs) => cs.all (V.under m)
  | some .dead => true
  | some (.siter ..) => true
  | some (.miter mid _ _ _) => Nat.blt mid m
  | some (.map es _) => es.all fun x => x.1.under m && x.2.1.under m
  | some (.mapc es _) => es.all fun x => x.1.under m && x.2.under m
  | some (.loop env _ _ _ _ _) => env.all (V.under m)
  | none => true

def forgE : List V → List V → Prop
  | [], [] => True
  | x :: xs, y :: ys => (y = x ∨ y = .undef) ∧ forgE xs ys
  | _, _ => False

inductive Forg (m0 : Nat) (env : List V) (h : Heap) (env' : List V) (h' : Heap) : Prop where
  | same : forgE env env' → h' = h → Forg m0 env h env' h'
  | cut : forgE env env' → m0 ≤ h'.length → h' = h.take h'.length → (env'.all (V.under h'.length) && h'.all (Blk.under h'.length)) = true → Forg m0 env h env' h'

/-- The least that is closed under rounds. -/
structure LoopP (P : Program) (T : Nat → Option TI) (c : Code) (body : List V → Heap → (X → List V → Heap → Prop) → Prop) (m0 : Nat) (env : List V) (h : Heap) (Q : X → List V → Heap → Prop) : Prop where
  lfp : ∀ R : List V → Heap → Prop, (∀ env1 h1 env2 h2, Forg m0 env1 h1 env2 h2 → body env2 h2 (fun x env h => match x with | .normal => R env h | x => Q x env h) → R env1 h1) → R env h

def PostC (φ : Phi) (μ : Mu) (B : Nat) (w : World) (d : List Deferred) (Q : X → List V → Heap → Prop) : Exit → Act → World → Prop := fun e a' w' =>
  ∃ x env' h' φ' μ', e = X.toExit x ∧ Q x env' h' ∧ EnvR φ' μ' env' a'.tmps ∧ Rel φ' μ' B h' w' ∧ Ext φ μ w φ' μ' ∧ Fr μ w w' ∧ Mk μ' w w' d a'.defers

structure DrawP (P : Program) (T : Nat → Option TI) (ops : List Oper) (env : List V) (h : Heap) (K : List V → Heap → Prop) : Prop where
  run : ∀ (ρ : Option Nat) (φ : Phi) (μ : Mu) (B : Nat) (w : World) (a : Act) (id : Nat), RoOk ρ w → B ≤ w.heap.size → Rel φ μ B h w → EnvR φ μ env a.tmps →
    (Code.region id ops.toArray true).wpIn (fen ρ) 0 P (fun e a' w' => ∃ env' h' φ' μ', e = .normal ∧ K env' h' ∧ EnvR φ' μ' env' a'.tmps ∧ Rel φ' μ' B h' w' ∧ Ext φ μ w φ' μ' ∧ Fr μ w w' ∧ a'.defers = a.defers) a w

/-- A range over a function, to its end. -/
structure RangeP (P : Program) (T : Nat → Option TI) (f : Operand) (ps : Array Tmp) (assign body : Code) (env : List V) (h : Heap) (Q : X → List V → Heap → Prop) : Prop where
  run : ∀ (ρ : Option Nat) (φ : Phi) (μ : Mu) (B : Nat) (w : World) (a : Act), RoOk ρ w → B ≤ w.heap.size → Rel φ μ B h w → EnvR φ μ env a.tmps →
    (Code.rangeFunc f ps assign body).wpIn (fen ρ) 0 P (PostC φ μ B w a.defers Q) a w

abbrev WP := List V → Heap → (X → List V → Heap → Prop) → Prop
def regC (P : Program) (T : Nat → Option TI) (md : Bool) (ops : Array Oper) (draw : Bool) : WP := fun env h Q => forceL ops.toList fun l => cond draw (DrawP P T l env h (Q .normal)) (regP P T md l l env h (Q .normal))
def seqC (a b : WP) : WP := fun env h Q => a env h fun x env h => match x with | .normal => b env h Q | x => Q x env h
def condC (c : Operand) (a b : WP) : WP := fun env h Q => (match evE env c with | .bool t => BCase t (a env h Q) (b env h Q) | _ => False)
def blockC (id : Nat) (a : WP) : WP := fun env h Q => a env h fun x env h => match x with | .exit i => cond (i == id) (Q .normal env h) (Q (.exit i) env h) | x => Q x env h

def wpC (P : Program) (T : Nat → Option TI) (md : Nat → Bool) (c : Code) : WP :=
  Code.rec (motive := fun _ => WP) (fun env h Q => Q .normal env h) (fun id ops draw => regC P T (md id) ops draw) (fun _ _ a b => seqC a b) (fun c _ _ a b => condC c a b) (fun id _ a => blockC id a)
    (fun c a env h Q => LoopP P T c a h.length env h Q) (fun f ps assign body _ _ env h Q => RangeP P T f ps assign body env h Q) (fun id env h Q => Q (.exit id) env h) (fun _ _ _ _ _ => False) (fun _ _ _ _ => False) (fun _ _ _ _ => False)
    (fun env h Q => Q .ret env h) (fun _ _ _ _ => False) c

/-! ### Soundness -/
theorem PostC.trans {φ φ1 : Phi} {μ μ1 : Mu} {B : Nat} {w w1 : World} {d d1 : List Deferred} {Q : X → List V → Heap → Prop} (hx : Ext φ μ w φ1 μ1) (hf : Fr μ w w1) (hm : Mk μ1 w w1 d d1) {e : Exit} {a : Act} {w' : World} (h : PostC φ1 μ1 B w1 d1 Q e a w') : PostC φ μ B w d Q e a w' := by
  obtain ⟨x, env', h', φ', μ', h1, h2, h3, h4, h5, h6, h7⟩ := h
  exact ⟨x, env', h', φ', μ', h1, h2, h3, h4, hx.trans hf.size h5, hf.trans hx h6, hm.trans hf.size h5 h6 h7⟩

theorem PostC.mono {φ : Phi} {μ : Mu} {B : Nat} {w : World} {d : List Deferred} {Q Q' : X → List V → Heap → Prop} (hQ : ∀ x e h, Q x e h → Q' x e h) {e : Exit} {a : Act} {w' : World} (h : PostC φ μ B w d Q e a w') : PostC φ μ B w d Q' e a w' := by
  obtain ⟨x, env', h', φ', μ', h1, h2, rest⟩ := h
  exact ⟨x, env', h', φ', μ', h1, hQ _ _ _ h2, rest⟩

theorem Mk.less {μ μ' : Mu} {w0 w : World} {d d' : List Deferred} (hm : ∀ i x, μ' i = some x → μ i = some x) (h : Mk μ w0 w d d') : Mk μ' w0 w d d' := by
  obtain ⟨ms, e, n, h⟩ := h
  exact ⟨ms, e, n, fun r hr => ⟨(h r hr).1, (h r hr).2.1, fun i x hi => (h r hr).2.2 i x (hm i _ hi)⟩⟩

/-- Blocks from m on are struck. -/
def Mu.upto (μ : Mu) (m : Nat) : Mu := fun i => if i < m then μ i else none

theorem below1_rv {φ : Phi} {μ : Mu} {m : Nat} {v : V} {c : Value} (h : Rv φ μ v c) (hb : v.under1 m = true) : Rv φ (μ.upto m) v c := by
  cases h with
  | undef => exact .undef _ _
  | bool => exact .bool _ _
  | int => exact .int _ _ _
  | str => exact .str _ _
  | nilp => exact .nilp _
  | ptr _ id off b hm => exact .ptr _ _ _ _ (by unfold Mu.upto; rw [if_pos (by simpa [V.under1, Nat.blt_eq] using hb)]; exact hm)
  | gptr _ id off ver b m' a h1 h2 h3 => exact .gptr _ _ _ _ b m' a (by unfold Mu.upto; rw [if_pos (by simpa [V.under1, Nat.blt_eq] using hb)]; exact h1) h2 h3
  | gsl _ id sz off n lo ex ver b m' cc a h1 h2 h3 h4 h5 h6 => exact .gsl _ _ _ _ _ _ _ _ b m' cc a (by unfold Mu.upto; rw [if_pos (by simpa [V.under1, Nat.blt_eq] using hb)]; exact h1) h2 h3 h4 h5 h6
  | nilm => exact .nilm _
  | iptr _ cs b off c h1 h2 => exact .iptr _ _ _ _ c h1 h2
  | fn => cases hb
  | nilfn => exact .nilfn _
  | nils => exact .nils _
  | psl0 => exact .psl0 _ _ _ _
  | psl _ sz xs tok b off cap c h0 h1 h2 h3 h4 =>
    refine .psl _ _ _ _ _ _ _ c h0 h1 h2 h3 ?_
    cases tok with
    | any => trivial
    | exact => exact h4
    | own id =>
      obtain ⟨b', m', g1, g2⟩ := h4
      exact ⟨b', m', by unfold Mu.upto; rw [if_pos (by simpa [V.under1, Nat.blt_eq] using hb)]; exact g1, g2⟩
  | lsl _ id sz off n cap b hm h' => exact .lsl _ _ _ _ _ _ _ (by unfold Mu.upto; rw [if_pos (by simpa [V.under1, Nat.blt_eq] using hb)]; exact hm) h'
  | map _ id b hm => exact .map _ _ _ (by unfold Mu.upto; rw [if_pos (by simpa [V.under1, Nat.blt_eq] using hb)]; exact hm)
  | yld _ id b hm => exact .yld _ _ _ (by unfold Mu.upto; rw [if_pos (by simpa [V.under1, Nat.blt_eq] using hb)]; exact hm)
  | agg => cases hb
  | tup => cases hb

theorem mem_getD {l : List V} {j : Nat} (hj : j < l.length) : l.getD j .undef ∈ l := by
  rw [List.getD_eq_getElem?_getD, List.getElem?_eq_getElem hj]; exact List.getElem_mem hj

theorem all_getD {l : List V} {p : V → Bool} (h : l.all p = true) {j : Nat} (hj : j < l.length) : p (l.getD j .undef) = true := by
  rw [List.all_eq_true] at h
  exact h _ (mem_getD hj)

theorem below2_rv {φ : Phi} {μ : Mu} {m : Nat} {v : V} {c : Value} (h : Rv φ μ v c) (hb : v.under2 m = true) : Rv φ (μ.upto m) v c := by
  unfold V.under2 at hb
  split at hb
  · simp only [Bool.and_eq_true] at hb
    cases h with
    | fn _ f a b cf cc l1 l2 h1 h2 => exact .fn _ _ _ _ _ _ l1 l2 (fun j hj => below1_rv (h1 j hj) (all_getD hb.1 hj)) (fun j hj => below1_rv (h2 j hj) (all_getD hb.2 hj))
  · obtain ⟨cs, rfl, hA⟩ := h.agg_inv
    exact .agg _ _ _ hA.1 (fun j hj => below1_rv (hA.2 j hj) (all_getD hb hj))
  · obtain ⟨cs, rfl, hA⟩ := h.tup_inv
    exact .tup _ _ _ hA.1 (fun j hj => below1_rv (hA.2 j hj) (all_getD hb hj))
  · exact below1_rv h hb

theorem below_rv {φ : Phi} {μ : Mu} {m : Nat} {v : V} {c : Value} (h : Rv φ μ v c) (hb : v.under m = true) : Rv φ (μ.upto m) v c := by
  unfold V.under at hb
  split at hb
  · simp only [Bool.and_eq_true] at hb
    cases h with
    | fn _ f a b cf cc l1 l2 h1 h2 => exact .fn _ _ _ _ _ _ l1 l2 (fun j hj => below2_rv (h1 j hj) (all_getD hb.1 hj)) (fun j hj => below2_rv (h2 j hj) (all_getD hb.2 hj))
  · obtain ⟨cs, rfl, hA⟩ := h.agg_inv
    exact .agg _ _ _ hA.1 (fun j hj => below2_rv (hA.2 j hj) (all_getD hb hj))
  · obtain ⟨cs, rfl, hA⟩ := h.tup_inv
    exact .tup _ _ _ hA.1 (fun j hj => below2_rv (hA.2 j hj) (all_getD hb hj))
  · exact below1_rv h hb

theorem forgE_ok {φ : Phi} {μ : Mu} : ∀ (env env' : List V), forgE env env' → env'.length = env.length ∧ ∀ (j : Nat) (c : Value), Rv φ μ (env.getD j .undef) c → Rv φ μ (env'.getD j .undef) c
  | [], [], _ => ⟨rfl, fun j c h => h⟩
  | x :: xs, y :: ys, h => by
    obtain ⟨h1, h2⟩ := h
    obtain ⟨l, hr⟩ := forgE_ok (φ := φ) (μ := μ) xs ys h2
    refine ⟨by simp [l], fun j c hc => ?_⟩
    cases j with
    | zero =>
      rcases h1 with rfl | rfl
      · exact hc
      · exact .undef _ _
    | succ j => simpa using hr j c (by simpa using hc)
  | [], _ :: _, h => by cases h
  | _ :: _, [], h => by cases h

theorem cut_rel {φ : Phi} {μ : Mu} {B : Nat} {h : Heap} {w : World} (r : Rel φ μ B h w) {m : Nat} (hm : m ≤ h.length) (hb : (h.take m).all (Blk.under m) = true) : Rel φ (μ.upto m) B (h.take m) w := by
  have sub : ∀ i x, μ.upto m i = some x → i < m ∧ μ i = some x := fun i x hx => by
    unfold Mu.upto at hx
    split at hx
    · rename_i hi; exact ⟨hi, hx⟩
    · cases hx
  refine ⟨r.glob, r.cell, r.size, fun i j b x y hi hj => r.inj i j b x y (sub i _ hi).2 (sub j _ hj).2, fun i b x hi => ?_, fun i k hk => ?_⟩
  · have := r.dom i b x (sub i _ hi).2
    exact ⟨by simp; have := (sub i _ hi).1; omega, this.2⟩
  · have him : i < m := by
      rcases Nat.lt_or_ge i m with h' | h'
      · exact h'
      · unfold hget at hk; rw [List.getElem?_eq_none (by simp; omega)] at hk; cases hk
    have hk' : hget h i = some k := by
      unfold hget at hk ⊢
      rwa [List.getElem?_take_of_lt him] at hk
    obtain ⟨b, x, h1, h2⟩ := r.blk i k hk'
    refine ⟨b, x, by unfold Mu.upto; rw [if_pos him]; exact h1, ?_⟩
    have hbk : Blk.under m (some k) = true := by
      rw [List.all_eq_true] at hb
      refine hb _ ?_
      unfold hget at hk
      cases hq : (h.take m)[i]? with
      | none => rw [hq] at hk; cases hk
      | some o =>
        rw [hq] at hk
        simp only [Option.join_some] at hk
        subst hk
        exact List.mem_of_getElem? hq
    cases k with
    | cells e cs =>
      obtain ⟨g0, c, g1, g2, g3, g4⟩ := h2
      exact ⟨g0, c, g1, g2, fun j hj => below_rv (g3 j hj) (all_getD hbk hj), g4⟩
    | grow ver e sz cs =>
      obtain ⟨g0, c, g1, g2, g3, g4, g5⟩ := h2
      exact ⟨g0, c, g1, g2, g3, fun j hj => below_rv (g4 j hj) (all_getD hbk hj), g5⟩
    | dead => trivial
    | siter s p => exact h2
    | miter mid since seen last =>
      obtain ⟨g0, bm, g1, g2⟩ := h2
      exact ⟨g0, bm, by unfold Mu.upto; rw [if_pos (by simpa [Blk.under, Nat.blt_eq] using hbk)]; exact g1, g2⟩
    | token sz n => exact h2
    | map es clock =>
      obtain ⟨g0, c, g1, g2, g3⟩ := h2
      refine ⟨g0, c, g1, g2, fun j x y hx hy => ?_⟩
      obtain ⟨k1, k2, k3⟩ := g3 j x y hx hy
      simp only [Blk.under, List.all_eq_true] at hbk
      have := hbk x (List.mem_of_getElem? hx)
      simp only [Bool.and_eq_true] at this
      exact ⟨below_rv k1 this.1, below_rv k2 this.2, k3⟩
    | mapc es clock =>
      obtain ⟨g0, c, fs, g1, g2, g3, g4⟩ := h2
      refine ⟨g0, c, fs, g1, g2, fun j x y hx hy => ?_, g4⟩
      obtain ⟨k1, k2, k3⟩ := g3 j x y hx hy
      simp only [Blk.under, List.all_eq_true] at hbk
      have := hbk (x.1, x.2.1) (g4.1.mem_iff.1 (List.mem_map_of_mem (f := fun x : V × V × Nat => (x.1, x.2.1)) (List.mem_of_getElem? hx)))
      simp only [Bool.and_eq_true] at this
      exact ⟨below_rv k1 this.1, below_rv k2 this.2, k3⟩
    | loop env ps assign body st pend =>
      obtain ⟨g0, fn, t, d, g1, g2, g3⟩ := h2
      exact ⟨g0, fn, t, d, g1, g2, fun j hj => below_rv (g3 j hj) (all_getD hbk hj)⟩

theorem forg_ok {φ0 φ : Phi} {μ0 μ : Mu} {B m0 : Nat} {h1 h2 : Heap} {w0 w : World} {env1 env2 : List V} {tmps : Array Value} (hm0 : ∀ i b x, μ0 i = some (b, x) → i < m0) (hx : Ext φ0 μ0 w0 φ μ) (r : Rel φ μ B h1 w) (he : EnvR φ μ env1 tmps) (hf : Forg m0 env1 h1 env2 h2) :
    ∃ μ2, Ext φ0 μ0 w0 φ μ2 ∧ Rel φ μ2 B h2 w ∧ EnvR φ μ2 env2 tmps ∧ ∀ i x, μ2 i = some x → μ i = some x := by
  cases hf with
  | same hE hh =>
    subst hh
    obtain ⟨l, hr⟩ := forgE_ok (φ := φ) (μ := μ) env1 env2 hE
    exact ⟨μ, hx, r, ⟨l.trans he.size, fun j => hr j _ (he.rv j)⟩, fun _ _ h => h⟩
  | cut hE hm hh hb =>
    obtain ⟨l, hr⟩ := forgE_ok (φ := φ) (μ := μ) env1 env2 hE
    simp only [Bool.and_eq_true] at hb
    have hle : h2.length ≤ h1.length := by rw [hh]; simp; omega
    generalize hl : h2.length = m at *
    subst hh
    refine ⟨μ.upto m, ⟨hx.phi, fun i x hi => ?_, fun i b x hi => ?_, hx.cells⟩, cut_rel r hle hb.2, ⟨l.trans he.size, fun j => ?_⟩, fun i x hi => ?_⟩
    · have him := hm0 i x.1 x.2 hi
      have e : μ.upto m i = μ i := by unfold Mu.upto; rw [if_pos (by omega)]
      rw [e]
      exact hx.mu i x hi
    · unfold Mu.upto at hi
      split at hi
      · exact hx.fresh i b x hi
      · cases hi
    · have h3 := hr j _ (he.rv j)
      by_cases hj : j < env2.length
      · exact below_rv h3 (all_getD hb.1 hj)
      · have : env2.getD j .undef = .undef := by simp [List.getElem?_eq_none (Nat.le_of_not_lt hj)]
        rw [this]; exact .undef _ _
    · unfold Mu.upto at hi
      split at hi
      · exact hi
      · cases hi

theorem rv_skip (φ : Phi) (μ : Mu) : Rv φ μ (.tup []) Go.undef := .tup _ _ _ rfl (fun j hj => by simp at hj)
theorem yielded_none {φ : Phi} {μ : Mu} {env : List V} {tmps : Array Value} (he : EnvR φ μ env tmps) {ops : Array Oper} {j d : Nat} {oj : Oper} (h1 : ops[j]? = some oj) (h2 : oj.dst = some d) (h3 : env.getD d .undef = .tup []) : yielded ops tmps j = none := by
  have h4 := he.rv d
  rw [h3] at h4
  have hd : ∀ b, tmps[d]? ≠ some (.bool b) := by
    intro b hb
    have e : tmps.getD d Go.undef = .bool b := by rw [Array.getD_eq_getD_getElem?, hb]; rfl
    rw [e] at h4
    cases h4
  have e : yielded ops tmps j = (match tmps[d]? with | some (.bool b) => some b | _ => none) := by simp [yielded, h1, h2]
  rw [e]
  split
  · rename_i b hb; exact absurd hb (hd b)
  · rfl
theorem yielded_bool {φ : Phi} {μ : Mu} {env : List V} {tmps : Array Value} (he : EnvR φ μ env tmps) {ops : Array Oper} {j d : Nat} {oj : Oper} {b : Bool} (h1 : ops[j]? = some oj) (h2 : oj.dst = some d) (h3 : env.getD d .undef = .bool b) : yielded ops tmps j = some b := by
  have h4 := he.rv d
  rw [h3] at h4
  have hd : tmps[d]? = some (.bool b) := by
    rcases Nat.lt_or_ge d tmps.size with h' | h'
    · have e : tmps.getD d Go.undef = tmps[d] := by simp [h']
      rw [e] at h4
      generalize hq : tmps[d] = q at h4
      cases h4
      rw [Array.getElem?_eq_getElem h', hq]
    · have e : tmps.getD d Go.undef = Go.undef := by simp [Array.getElem?_eq_none h']
      rw [e] at h4
      cases h4
  simp [yielded, h1, h2, hd]

theorem roundIn_fen {ρ : Option Nat} {n : Nat} {P : Program} {l : Nat} {f : FuncId} {tmps : Array Value} {assign body : Code} {w : World} {R : Ending → World → Prop} (h : RoundIn Fence.wide 0 P l f tmps assign body w R) : RoundIn (fen ρ) n P l f tmps assign body w R :=
  ⟨trivial, fun c cs _ => h.2 c cs (room_wide _)⟩

section
variable {P : Program} {T : Nat → Option TI} (hT : TOk P T)
include hT

theorem opN_ok {ρ : Option Nat} {md : Bool} {φ : Phi} {μ : Mu} {B : Nat} {h : Heap} {w : World} (hB : B ≤ w.heap.size) (r : Rel φ μ B h w) {a : Act} {ev : Operand → V} (he : ∀ x, Rv φ μ (ev x) (a.eval x)) {K : V → Heap → Prop} (Q : Exit → Act → World → Prop) (o : Oper) (hd : ∀ c, o.op ≠ .defer c) (hk : opN P T md ev h K o.op) :
    o.wpIn (fen ρ) 0 P a w (fun a' w' => ∃ cv, a' = a.put o.dst cv ∧ Done φ μ B w K cv w') Q := by
  unfold opN at hk
  rw [natL_eq] at hk
  split at hk
  · rename_i out hf
    cases hc : out.c with
    | false => rw [hc] at hk; cases hk
    | true =>
      rw [hc] at hk
      simp only [cond_true] at hk
      have hpad : hget (h ++ List.replicate out.nw none) = hget h := by funext i; exact hget_pad h out.nw i
      have hfr : ∀ q, μ (h.length + q) = none := fun q => by
        cases hq : μ (h.length + q) with
        | none => rfl
        | some x => have := (r.dom _ x.1 x.2 hq).1; omega
      obtain ⟨cv, w', h1, φ', μ', h2, h3, h4, h5, _⟩ := opF_ok (nid := h.length) hT hB (r.pad (w' := w) rfl out.nw) hc (by simp) (fun q _ => hfr q) he o (by rw [hpad]; exact hf)
      refine wpIn_of_op hd ?_
      have hdone : Done φ μ B w K cv w' := ⟨_, _, φ', μ', hk, h2, h3, h4, h5⟩
      rcases h1 with h1 | ⟨h1, rfl⟩
      · exact wp_value Q h1 hdone
      · exact wp_skipped Q h1 hdone
  · cases hk

omit hT in
theorem EntR.filter {φ : Phi} {μ : Mu} {p : Nat → Bool} : ∀ {es : List (V × V × Nat)} {cs : List MapEntry}, EntR φ μ es cs → EntR φ μ (es.filter fun e => p e.2.2) (cs.filter fun e => p e.born)
  | [], cs, h => by
    have : cs = [] := List.length_eq_zero_iff.1 (by have := h.1; simpa using this)
    subst this
    exact ⟨rfl, fun j x y hx => by simp at hx⟩
  | e :: es, cs, h => by
    obtain ⟨c, cs', rfl, h1, h2, h3, h'⟩ := h.cons
    have ih := EntR.filter (p := p) h'
    rw [List.filter_cons, List.filter_cons, ← h3]
    cases hp : p e.2.2 with
    | false => simpa using ih
    | true =>
      simp only [if_true]
      refine ⟨by simp [ih.1], fun j x y hx hy => ?_⟩
      cases j with
      | zero => simp at hx hy; subst hx; subst hy; exact ⟨h1, h2, h3⟩
      | succ j => exact ih.2 j x y (by simpa using hx) (by simpa using hy)

omit hT in
theorem EntR.born {φ : Phi} {μ : Mu} {p : Nat → Bool} : ∀ {es : List (V × V × Nat)} {cs : List MapEntry}, EntR φ μ es cs → (es.all fun e => p e.2.2) = (cs.all fun e => p e.born)
  | [], cs, h => by
    have : cs = [] := List.length_eq_zero_iff.1 (by have := h.1; simpa using this)
    subst this
    rfl
  | e :: es, cs, h => by
    obtain ⟨c, cs', rfl, h1, h2, h3, h'⟩ := h.cons
    rw [List.all_cons, List.all_cons, h3, EntR.born (p := p) h']

omit hT in
theorem run_next {φ : Phi} {μ : Mu} {B : Nat} {h : Heap} {w : World} (r : Rel φ μ B h w) {x : V} {cx : Value} {ty : Nat} (hx : Rv φ μ x cx) {K : V → Heap → Prop} (hk : nextP x h K) : ∃ cv w', (Instr.next cx false ty).run P w = .ok cv w' ∧ Done φ μ B w K cv w' := by
  unfold nextP at hk
  split at hk
  · rename_i id
    split at hk
    · rename_i mid since seen last hh
      split at hk
      · rename_i es clock hm
        generalize hcc : (Nat.beq since clock && Nat.beq last clock && es.all fun e => Nat.blt e.2.2 clock) = cc at hk
        cases cc with
        | false => cases hk
        | true =>
          simp only [cond_true] at hk
          simp only [Bool.and_eq_true] at hcc
          obtain ⟨⟨e1, e2⟩, hall⟩ := hcc
          have e1 := Nat.eq_of_beq_eq_true e1
          have e2 := Nat.eq_of_beq_eq_true e2
          subst e1; subst e2
          cases hx with
          | ptr _ _ _ b hb =>
            obtain ⟨b', x', hb', h0, bm, hbm, h1⟩ := r.blk id _ hh
            rw [hb] at hb'
            simp only [Option.some.injEq, Prod.mk.injEq] at hb'
            obtain ⟨rfl, _⟩ := hb'
            obtain ⟨c, h2, hE⟩ := hget_map r hm hbm
            have hn1 : ∀ c' e fr, Obj.mapIter (some bm) last seen.toArray last ≠ .cells c' e fr := fun _ _ _ e => by cases e
            have hn2 : ∀ c' e fr, Obj.map c last ≠ .cells c' e fr := fun _ _ _ e => by cases e
            have hall' : (c.toList.all fun e => Nat.blt e.born last) = true := by rw [← EntR.born (p := fun n => Nat.blt n last) hE]; exact hall
            rw [List.all_eq_true] at hall'
            have hlt : ∀ e ∈ c.toList, e.born < last := fun e he => nblt_t (hall' e he)
            have hF := EntR.filter (p := fun n => !seen.contains n) hE
            have hold : (c.filter fun e => !seen.toArray.contains e.born) = (c.toList.filter fun e => !seen.contains e.born).toArray := by
              rw [← Array.toArray_toList (xs := c.filter _), Array.toList_filter]
              simp
            obtain ⟨left, hleft⟩ : ∃ left, left = (c.toList.filter fun e => !seen.contains e.born) := ⟨_, rfl⟩
            rw [← hleft] at hold hF
            have hlold : left.toArray.filter (fun e => e.born < last) = left.toArray := by
              rw [← Array.toArray_toList (xs := left.toArray.filter _), Array.toList_filter]
              congr 1
              rw [List.filter_eq_self]
              intro e he
              have := hlt e (by rw [hleft] at he; simp at he; simpa using he.1)
              simpa using this
            have hlnew : left.toArray.filter (fun e => e.born ≥ last) = #[] := by
              rw [← Array.toArray_toList (xs := left.toArray.filter _), Array.toList_filter]
              congr 1
              rw [List.filter_eq_nil_iff]
              intro e he
              have := hlt e (by rw [hleft] at he; simp at he; simpa using he.1)
              simp; omega
            have hguard : (!seen.toArray.isEmpty && !c.isEmpty && c.all (fun e => decide (e.born ≥ last))) = false := by
              cases hce : c.isEmpty with
              | true => simp
              | false =>
                have : ∃ e, e ∈ c.toList := by
                  cases hcl : c.toList with
                  | nil => have : c = #[] := by rw [← Array.toArray_toList (xs := c), hcl]
                           subst this; simp at hce
                  | cons e _ => exact ⟨e, by simp⟩
                obtain ⟨e, he⟩ := this
                have hne : (c.all fun e => decide (e.born ≥ last)) = false := by
                  rw [← Array.all_toList, List.all_eq_false]
                  exact ⟨e, he, by have := hlt e he; simp; omega⟩
                rw [hne]; simp
            have hrun : (Instr.next (.pointer (some ⟨b, 0, none⟩)) false ty).run P w = (do
                let candidates : Array (Option MapEntry) := (if left.toArray.isEmpty then #[none] else #[]) ++ (left.toArray ++ #[]).map some
                match candidates[← choose (.mapNext candidates.size)]? with
                | some (some e) =>
                  setObj b (.mapIter (some bm) last (seen.toArray.push e.born) last)
                  pure (.tuple #[.bool true, e.key, e.val])
                | some none => pure (.tuple #[.bool false])
                | none => stuck "Next: no such candidate" : Go.Sem Value).run P w := by
              simp only [Instr.next, Sem.run_bind, run_getObj h1 hn1, Result.andThen_ok, run_getObj h2 hn2, hguard, Bool.false_eq_true, if_false, hold, hlold, hlnew]
              rfl
            split at hk
            · rename_i hl0
              have hlen0 : left = [] := List.length_eq_zero_iff.1 (by rw [hF.1, hl0]; rfl)
              rw [hlen0] at hrun
              refine ⟨.tuple #[.bool false], w, ?_, Done.here hk (.tup _ _ _ rfl (fun j hj => by simp at hj; subst hj; exact .bool _ _)) r⟩
              rw [hrun]
              simp [Question.forced]
            · rename_i e0 l0 hl0
              have hln : left.length = (e0 :: l0).length := by rw [hF.1, hl0]
              have hpos : 0 < left.length := by rw [hln]; simp
              have hcand : ((if left.toArray.isEmpty then #[none] else #[]) ++ (left.toArray ++ #[]).map some : Array (Option MapEntry)) = (left.map some).toArray := by
                have : left.toArray.isEmpty = false := by
                  cases left with
                  | nil => simp at hpos
                  | cons _ _ => rfl
                rw [this]; simp
              rw [hcand] at hrun
              have hsz : (left.map some).toArray.size = left.length := by simp
              -- whatever is chosen
              have one : ∀ (i : Nat) (w0 : World), i < left.length → w0.heap = w.heap → (w0.os = w.os ∧ w0.tape = w.tape ∧ w0.output = w.output) → ∃ cv w', ((match (left.map some).toArray[i]? with
                  | some (some e) => do
                    setObj b (.mapIter (some bm) last (seen.toArray.push e.born) last)
                    pure (.tuple #[.bool true, e.key, e.val])
                  | some none => pure (.tuple #[.bool false])
                  | none => stuck "Next: no such candidate" : Go.Sem Value)).run P w0 = .ok cv w' ∧ Done φ μ B w K cv w' := fun i w0 hi hw0 hw1 => by
                have hget : (left.map some).toArray[i]? = some (some left[i]) := by simp [hi]
                rw [hget]
                have hx : (e0 :: l0)[i]? = some ((e0 :: l0)[i]'(by rw [← hln]; exact hi)) := List.getElem?_eq_getElem _
                obtain ⟨k1, k2, k3⟩ := hF.2 i _ left[i] (by rw [hl0]; exact hx) (List.getElem?_eq_getElem hi)
                have hK := hk _ (List.getElem_mem (by rw [← hln]; exact hi))
                generalize (e0 :: l0)[i]'(by rw [← hln]; exact hi) = x at k1 k2 k3 hK
                have r0 : Rel φ μ B h w0 := ⟨r.glob, fun b o v hv => by rw [← r.cell b o v hv]; simp only [World.cell?, hw0], fun b n hn => by rw [hw0]; exact r.size b n hn, r.inj, fun i b x hi => by rw [hw0]; exact r.dom i b x hi, fun i k hk => by
                  obtain ⟨bb, y, q1, q2⟩ := r.blk i k hk
                  exact ⟨bb, y, q1, q2.mono φ.le_refl (Mu.le_refl _) (by rw [hw0]) (fun _ _ h => h)⟩⟩
                have h1' : w0.heap[b]? = some (.mapIter (some bm) last seen.toArray last) := by rw [hw0]; exact h1
                have hbl : b < w0.heap.size := (Array.getElem?_eq_some_iff.1 h1').1
                obtain ⟨φ', μ', q1, q2, q3, q4, _⟩ := OutR.putObj (h := h) (nid := 0) (out := ⟨true, .tup [.bool true, x.1, x.2.1], [(id, .miter mid last (seen ++ [x.2.2]) last)], [], 0⟩) (cv := .tuple #[.bool true, left[i].key, left[i].val]) (k := .miter mid last (seen ++ [x.2.2]) last) (o' := .mapIter (some bm) last (seen.toArray.push left[i].born) last) r0 hb h1' hn1 (fun _ e => by cases e) ⟨rfl, bm, hbm, by rw [World.putObj_heap_same hbl, k3]; simp⟩ rfl (.tup _ _ _ rfl (fun j hj => by
                  simp at hj
                  rcases (show j = 0 ∨ j = 1 ∨ j = 2 by omega) with rfl | rfl | rfl
                  · exact .bool _ _
                  · exact k1
                  · exact k2))
                refine ⟨_, _, by simp only [Sem.run_bind, run_setObj h1' hn1, Result.andThen_ok, Sem.run_pure], _, _, φ', μ', hK, q1, q2, ⟨q3.phi, q3.mu, fun i b x hi => by rw [← hw0]; exact q3.fresh i b x hi, fun b o v hv => by rw [← hw0]; exact q3.cells b o v hv⟩, ⟨q4.os.trans hw1.1, q4.tape.trans hw1.2.1, q4.output.trans hw1.2.2, by rw [← hw0]; exact q4.size, fun k hk hn => by rw [← hw0]; exact q4.block k (by rw [hw0]; exact hk) hn, fun k rr hk => q4.loops k rr (by rw [hw0]; exact hk)⟩⟩
              by_cases hq : left.length ≤ 1
              · obtain ⟨cv, w', g1, g2⟩ := one 0 w hpos rfl ⟨rfl, rfl, rfl⟩
                refine ⟨cv, w', ?_, g2⟩
                rw [hrun]
                simp only [Sem.run_bind, run_choose, Question.forced, hsz, hq, decide_true, if_true, Result.andThen_ok]
                exact g1
              · obtain ⟨cv, w', g1, g2⟩ := one ((w.tape w.drawn (.mapNext left.length)) % left.length) { w with drawn := w.drawn + 1 } (Nat.mod_lt _ hpos) rfl ⟨rfl, rfl, rfl⟩
                refine ⟨cv, w', ?_, g2⟩
                rw [hrun]
                simp only [Sem.run_bind, run_choose, Question.forced, hsz, hq, decide_false, Bool.false_eq_true, if_false, Result.andThen_ok, Question.cut]
                exact g1
      · cases hk
    · cases hk
  · cases hk

theorem opY_ok {ρ : Option Nat} {md : Bool} {φ : Phi} {μ : Mu} {B : Nat} {h : Heap} {w : World} (hB : B ≤ w.heap.size) (r : Rel φ μ B h w) {a : Act} {ev : Operand → V} (he : ∀ x, Rv φ μ (ev x) (a.eval x)) {K : V → Heap → Prop} (Q : Exit → Act → World → Prop) (o : Oper) (hk : opY P T md ev h K o.op) :
    o.wpIn (fen ρ) 0 P a w (fun a' w' => ∃ cv, a' = a.put o.dst cv ∧ Done φ μ B w K cv w') Q := by
  have plain : opN P T md ev h K o.op → (∀ c, o.op ≠ .defer c) → o.wpIn (fen ρ) 0 P a w (fun a' w' => ∃ cv, a' = a.put o.dst cv ∧ Done φ μ B w K cv w') Q := fun hp hd => opN_ok hT hB r he Q o hd hp
  cases ho : o.op
  case call c =>
    have hd : ∀ c', o.op ≠ .defer c' := fun c' e => by rw [ho] at e; cases e
    rw [ho] at hk
    simp only [opY] at hk
    split at hk
    · rename_i f hf
      have hfv := he f
      generalize hcf : a.eval f = cf at hfv
      split at hk
      · rename_i g first caps hid
        rw [fl2_eq] at hk
        rw [hid] at hfv
        cases hfv with
        | fn _ _ _ _ c1 c2 l1 l2 h1 h2 =>
          have hA : RvL φ μ (first ++ (c.args.toList.map ev) ++ caps) (c1 ++ c.args.map a.eval ++ c2) :=
            (RvA.app (RvA.app ⟨l1, h1⟩ ⟨(evL he c.args).1, (evL he c.args).2⟩) ⟨l2, h2⟩).toL
          have hdone : ∀ {e : Ending} {w' : World}, Ret φ μ B w K e w' → ∃ cv, e = .returned cv ∧ Done φ μ B w K cv w' := fun ⟨v, h', φ', μ', cv, e, hK, hv, hr, hx, hfr⟩ => ⟨cv, e, v, h', φ', μ', hK, hv, hr, hx, hfr⟩
          refine wpIn_of_op hd ?_
          rcases hk.run φ μ B w _ hB r hA with ⟨hent, hcalls⟩ | ⟨v, hval, hret⟩
          · have hrun : (execOp a.eval o).run P w = .ok (.enter g (c1 ++ c.args.map a.eval ++ c2)) w := by
              unfold execOp
              simp only [ho, resolve, hf, hcf, Deferred.ofValue, Sem.run_bind, Sem.run_pure, Result.andThen_ok, invoke]
              exact hent
            unfold Oper.wp
            rw [hrun, Oper.upon_enter]
            refine hcalls.mono fun e w' he' => ?_
            obtain ⟨cv, rfl, hdn⟩ := hdone he'
            exact ⟨cv, rfl, hdn⟩
          · have hrun : (execOp a.eval o).run P w = .ok (.value v) w := by
              unfold execOp
              simp only [ho, resolve, hf, hcf, Deferred.ofValue, Sem.run_bind, Sem.run_pure, Result.andThen_ok, invoke]
              exact hval
            obtain ⟨cv, e, hdn⟩ := hdone hret
            cases e
            exact wp_value Q hrun hdn
      · rename_i id hid
        rw [fl2_eq] at hk
        rw [hid] at hfv
        cases hfv with
        | yld _ _ b hb =>
          obtain ⟨fn, tmps, as, bo, hy, hround⟩ := hk.run φ μ B w (c.args.map a.eval) b hB r (RvA.toL ⟨(evL he c.args).1, (evL he c.args).2⟩) hb
          refine ⟨fun _ _ => trivial, ?_⟩
          have hrun : (execOp a.eval o).run P w = .ok (.round b fn tmps as bo) w := by
            unfold execOp
            simp only [ho, resolve, hf, hcf, Deferred.ofValue, Sem.run_bind, Sem.run_pure, Result.andThen_ok, invoke, Array.empty_append, hy]
          rw [fen_round, semAt_fen hd, hrun, Oper.uponIn_round]
          refine ⟨depth_fen, (roundIn_fen hround).mono fun e w' he' => ?_⟩
          obtain ⟨v, h', φ', μ', cv, rfl, hK, hv, hr, hx, hfr⟩ := he'
          exact ⟨cv, rfl, v, h', φ', μ', hK, hv, hr, hx, hfr⟩
      · cases hk
    · cases hk
    · exact plain (by rw [ho]; exact hk) hd
  case next it b =>
    have hd : ∀ c', o.op ≠ .defer c' := fun c' e => by rw [ho] at e; cases e
    cases b with
    | true => rw [ho] at hk; exact plain (by rw [ho]; exact hk) hd
    | false =>
      rw [ho] at hk
      obtain ⟨cv, w', g1, g2⟩ := run_next (P := P) (ty := o.type) r (he it) hk
      refine wpIn_of_op hd (wp_value Q ?_ g2)
      unfold execOp
      simp only [ho, g1, Sem.run_bind, Result.andThen_ok, Sem.run_pure]
  case indexAddr t x i =>
    have hd : ∀ c', o.op ≠ .defer c' := fun c' e => by rw [ho] at e; cases e
    rw [ho] at hk
    simp only [opY] at hk
    split at hk
    · rename_i sz xs tk kk n hx hi
      refine plain ?_ hd
      obtain ⟨cs, ⟨h1, h2⟩, h3⟩ := hk
      obtain ⟨hl, hE⟩ := List.getElem?_eq_some_iff.1 h2
      rw [ho]
      unfold opN
      rw [natL_eq]
      unfold idxOk at h3
      split at h3
      · rename_i ti hti
        split at h3
        · rename_i e hke
          split at h3
          · rename_i ei hei
            cases hsz : (sz == ei.size) with
            | false => rw [hsz] at h3; cases h3
            | true =>
              rw [hsz] at h3
              have hb : (decide (0 ≤ n) && decide (n < (xs.length : Int))) = true := by
                simp only [Bool.and_eq_true, decide_eq_true_eq]; omega
              have hg : xs.getD n.toNat [] = cs := by rw [List.getD_eq_getElem?_getD, h2]; rfl
              simp only [opF, pureO, indexAddrO, hti, hke, hei, hx, hi, hsz, cond_true, hb, hg, applyW, List.foldl_nil, List.replicate_zero, List.append_nil]
              exact h3
          · cases h3
        · cases h3
      · cases h3
    · exact plain (by rw [ho]; exact hk) hd
  case defer c => rw [ho] at hk; simp only [opY, opN, natL_eq, opF, pureO] at hk
  all_goals (rw [ho] at hk; exact plain (by rw [ho]; exact hk) (fun c' e => by rw [ho] at e; cases e))

theorem regP_ok {ρ : Option Nat} {md : Bool} (all : List Oper) (Q : Exit → Act → World → Prop) {K : List V → Heap → Prop} : ∀ (l : List Oper) (env : List V) (h : Heap) (φ : Phi) (μ : Mu) (B : Nat) (w : World) (a : Act),
    B ≤ w.heap.size → Rel φ μ B h w → EnvR φ μ env a.tmps → regP P T md all l env h K →
    (∀ env' h' φ' μ' a' w', K env' h' → EnvR φ' μ' env' a'.tmps → Rel φ' μ' B h' w' → Ext φ μ w φ' μ' → Fr μ w w' → a'.defers = a.defers → Q .normal a' w') → wpListIn (fen ρ) 0 P all.toArray Q l a w := by
  intro l
  induction l with
  | nil =>
    intro env h φ μ B w a hB r he hk hQ
    exact hQ env h φ μ a w hk he r (Ext.refl _ _ _) (Fr.refl _ _) rfl
  | cons o rest ih =>
    intro env h φ μ B w a hB r he hk hQ
    have hrun : (opY P T md (evE env) h (fun v h' => v.force fun v => forceL (putE env o.dst v) fun env' => forceH h' fun h' => regP P T md all rest env' h' K) o.op) → o.wpIn (fen ρ) 0 P a w (wpListIn (fen ρ) 0 P all.toArray Q rest) Q := fun ho => by
      have := opY_ok (ρ := ρ) hT hB r (fun x => he.eval r x) Q o ho
      refine Go.Oper.wpIn_mono (fun a' w' hd => ?_) this
      obtain ⟨cv, rfl, v, h', φ', μ', hk', hv, r', hx, hf⟩ := hd
      simp only [V.force_eq, forceL_eq, forceH_eq] at hk'
      refine ih _ h' φ' μ' B w' (a.put o.dst cv) (Nat.le_trans hB hf.size) r' ?_ hk' (fun env'' h'' φ'' μ'' a'' w'' k1 k2 k3 k4 k5 k6 => hQ env'' h'' φ'' μ'' a'' w'' k1 k2 k3 (hx.trans hf.size k4) (hf.trans hx k5) (k6.trans ?_))
      · exact (he.mono hx.phi hx.mu).put hv o.dst
      · cases o.dst <;> rfl
    have hskip : (forceL (putE env o.dst (.tup [])) fun env' => regP P T md all rest env' h K) → (∀ f, o.about P w a.eval = some f → (fen ρ).fn f) ∧ wpListIn (fen ρ) 0 P all.toArray Q rest (a.put o.dst Go.undef) w := fun hs => by
      rw [forceL_eq] at hs
      refine ⟨fun _ _ => trivial, ih _ h φ μ B w (a.put o.dst Go.undef) hB r (he.put (rv_skip _ _) o.dst) hs (fun env'' h'' φ'' μ'' a'' w'' k1 k2 k3 k4 k5 k6 => hQ env'' h'' φ'' μ'' a'' w'' k1 k2 k3 k4 k5 (k6.trans ?_))⟩
      cases o.dst <;> rfl
    unfold wpListIn
    rw [regP_cons] at hk
    unfold stepP at hk
    replace hk := guardN_old hk
    dsimp only at hk
    unfold guardP at hk
    split at hk
    · rename_i hg
      rw [if_pos (by simp [Region.wanted, hg])]
      exact hrun hk
    · rename_i j want hg
      split at hk
      · rename_i oj hoj
        split at hk
        · rename_i d hd
          have hoj' : all.toArray[j]? = some oj := by simpa using hoj
          split at hk
          · rename_i b hb
            have hy := yielded_bool he hoj' hd hb
            cases b with
            | true =>
              rw [if_pos (by simp [Region.wanted, hg, hy])]
              exact hrun (hk.1 rfl)
            | false =>
              rw [if_neg (by simp [Region.wanted, hg, hy])]
              exact hskip (hk.2 rfl)
          · rename_i b hb
            have hy := yielded_bool he hoj' hd hb
            cases b with
            | true =>
              rw [if_neg (by simp [Region.wanted, hg, hy])]
              exact hskip (hk.1 rfl)
            | false =>
              rw [if_pos (by simp [Region.wanted, hg, hy])]
              exact hrun (hk.2 rfl)
          · rename_i hb
            have hy := yielded_none he hoj' hd hb
            rw [if_neg (by simp [Region.wanted, hg, hy])]
            exact hskip hk
          · cases hk
        · cases hk
      · cases hk

omit hT in
theorem loop_ok {ρ : Option Nat} {md : Nat → Bool} {c : Code} (hc : ∀ (env : List V) (h : Heap) (Q : X → List V → Heap → Prop) (φ : Phi) (μ : Mu) (B : Nat) (w : World) (a : Act), RoOk ρ w → B ≤ w.heap.size → Rel φ μ B h w → EnvR φ μ env a.tmps → wpC P T md c env h Q → c.wpIn (fen ρ) 0 P (PostC φ μ B w a.defers Q) a w)
    (env0 : List V) (h0 : Heap) (Q : X → List V → Heap → Prop) (φ0 : Phi) (μ0 : Mu) (B : Nat) (w0 : World) (a0 : Act) (hro0 : RoOk ρ w0) (hB0 : B ≤ w0.heap.size) (r0 : Rel φ0 μ0 B h0 w0) (he0 : EnvR φ0 μ0 env0 a0.tmps) (hk : LoopP P T c (wpC P T md c) h0.length env0 h0 Q) :
      ∀ (b : Frame) (k : List Item) (cs : List Frame), b.roundOf = ρ → ∃ e a' w', PostC φ0 μ0 B w0 a0.defers Q e a' w' ∧ ArrivesIn (Machine.fenced P (fen ρ)) P (lone (b.atR a0 (.code c :: .inLoop c :: k)) cs w0) b k cs e a' w' := by
  refine hk.lfp (fun env h => ∀ (φ : Phi) (μ : Mu) (w : World) (a : Act), Ext φ0 μ0 w0 φ μ → Fr μ0 w0 w → Rel φ μ B h w → EnvR φ μ env a.tmps → Mk μ w0 w a0.defers a.defers → ∀ (b : Frame) (k : List Item) (cs : List Frame), b.roundOf = ρ →
    ∃ e a' w', PostC φ0 μ0 B w0 a0.defers Q e a' w' ∧ ArrivesIn (Machine.fenced P (fen ρ)) P (lone (b.atR a (.code c :: .inLoop c :: k)) cs w) b k cs e a' w') ?_ φ0 μ0 w0 a0 (Ext.refl _ _ _) (Fr.refl _ _) r0 he0 (Mk.refl _ _ _ _)
  intro env1 h1 env2 h2 hforg hbody φ μ w a hx hf r he hd b k cs hb
  obtain ⟨μ2, hx2, r2, he2, hless⟩ := forg_ok (m0 := h0.length) (fun i b x hi => (r0.dom i b x hi).1) hx r he hforg
  obtain ⟨e, a1, w1, hp, harr⟩ := hc env2 h2 _ φ μ2 B w a (hro0.fr hf) (Nat.le_trans hB0 hf.size) r2 he2 hbody b (.inLoop c :: k) cs hb trivial (room_wide _)
  obtain ⟨x, env', h', φ', μ', rfl, hq, he', r', hx', hf', hd'⟩ := hp
  have hxx := hx2.trans hf.size hx'
  have hff := hf.trans hx2 hf'
  have hmm := (hd.less hless).trans hf.size hx' hf' hd'
  cases x with
  | normal =>
    obtain ⟨e2, a2, w2, hp2, harr2⟩ := hq φ' μ' w1 a1 hxx hff r' he' hmm b k cs hb
    exact ⟨e2, a2, w2, hp2, .of_steps (StepsIn.trans harr (.one (fenced_calm (n := 0) trivial (room_wide _) rfl) stepR_inLoop)) harr2⟩
  | exit id => exact ⟨_, a1, w1, ⟨.exit id, env', h', φ', μ', rfl, hq, he', r', hxx, hff, hmm⟩, .pass (x := .inLoop c) rfl (fun _ _ => .inl (by simp [X.toExit])) harr⟩
  | ret => exact ⟨_, a1, w1, ⟨.ret, env', h', φ', μ', rfl, hq, he', r', hxx, hff, hmm⟩, .pass (x := .inLoop c) rfl (fun _ _ => .inl (by simp [X.toExit])) harr⟩

theorem wpC_ok (ρ : Option Nat) {md : Nat → Bool} (c : Code) : ∀ (env : List V) (h : Heap) (Q : X → List V → Heap → Prop) (φ : Phi) (μ : Mu) (B : Nat) (w : World) (a : Act), RoOk ρ w → B ≤ w.heap.size → Rel φ μ B h w → EnvR φ μ env a.tmps → wpC P T md c env h Q → c.wpIn (fen ρ) 0 P (PostC φ μ B w a.defers Q) a w := by
  induction c with
  | skip => intro env h Q φ μ B w a _ _ r he hk; exact wpIn_skip ⟨.normal, env, h, φ, μ, rfl, hk, he, r, Ext.refl _ _ _, Fr.refl _ _, Mk.refl _ _ _ _⟩
  | region id ops draw =>
    intro env h Q φ μ B w a hro hB r he hk
    replace hk : forceL ops.toList fun l => cond draw (DrawP P T l env h (Q .normal)) (regP P T (md id) l l env h (Q .normal)) := hk
    rw [forceL_eq] at hk
    cases draw with
    | true =>
      have := DrawP.run hk ρ φ μ B w a id hro hB r he
      simp only [Array.toArray_toList] at this
      exact wpIn_mono this fun e a' w' ⟨env', h', φ', μ', he, h1, h2, h3, h4, h5, h6⟩ => ⟨.normal, env', h', φ', μ', he, h1, h2, h3, h4, h5, Mk.of_eq h6⟩
    | false =>
      refine wpIn_region_list ?_
      have := regP_ok (ρ := ρ) hT ops.toList (PostC φ μ B w a.defers Q) ops.toList env h φ μ B w a hB r he hk (fun env' h' φ' μ' a' w' k1 k2 k3 k4 k5 k6 => ⟨.normal, env', h', φ', μ', rfl, k1, k2, k3, k4, k5, Mk.of_eq k6⟩)
      simpa using this
  | seq x y ihx ihy =>
    intro env h Q φ μ B w a hro hB r he hk
    refine wpIn_seq (wpIn_mono (ihx env h _ φ μ B w a hro hB r he hk) ?_)
    rintro e a' w' ⟨x, env', h', φ', μ', rfl, hq, he', r', hx, hf, hd⟩
    cases x with
    | normal =>
      have := ihy env' h' Q φ' μ' B w' a' (hro.fr hf) (Nat.le_trans hB hf.size) r' he' hq
      exact wpIn_mono this fun _ _ _ hp => hp.trans hx hf hd
    | exit id => exact ⟨.exit id, env', h', φ', μ', rfl, hq, he', r', hx, hf, hd⟩
    | ret => exact ⟨.ret, env', h', φ', μ', rfl, hq, he', r', hx, hf, hd⟩
  | cond c x y ihx ihy =>
    intro env h Q φ μ B w a hro hB r he hk
    replace hk : (match evE env c with | .bool t => BCase t (wpC P T md x env h Q) (wpC P T md y env h Q) | _ => False) := hk
    have hc := he.eval r c
    generalize evE env c = vc at hk hc
    generalize hcc : a.eval c = cc at hc
    split at hk
    · rename_i b
      cases hc
      refine wpIn_cond hcc ?_
      cases b with
      | true => exact ihx env h Q φ μ B w a hro hB r he (hk.1 rfl)
      | false => exact ihy env h Q φ μ B w a hro hB r he (hk.2 rfl)
    · cases hk
  | block id c ih =>
    intro env h Q φ μ B w a hro hB r he hk
    refine wpIn_block (wpIn_mono (ih env h _ φ μ B w a hro hB r he hk) ?_)
    rintro e a' w' ⟨x, env', h', φ', μ', rfl, hq, he', r', hx, hf, hd⟩
    cases x with
    | normal => exact ⟨.normal, env', h', φ', μ', rfl, hq, he', r', hx, hf, hd⟩
    | exit i =>
      simp only [X.toExit, Exit.inBlock]
      by_cases hi : i = id
      · rw [if_pos hi]
        have : (i == id) = true := by simpa using hi
        simp only [this, cond_true] at hq
        exact ⟨.normal, env', h', φ', μ', rfl, hq, he', r', hx, hf, hd⟩
      · rw [if_neg hi]
        have : (i == id) = false := by simpa using hi
        simp only [this, cond_false] at hq
        exact ⟨.exit i, env', h', φ', μ', rfl, hq, he', r', hx, hf, hd⟩
    | ret => exact ⟨.ret, env', h', φ', μ', rfl, hq, he', r', hx, hf, hd⟩
  | loop c ih =>
    intro env h Q φ μ B w a hro hB r he hk b k cs hb _ _
    obtain ⟨e, a', w', hp, harr⟩ := loop_ok (T := T) (md := md) (c := c) ih env h Q φ μ B w a hro hB r he hk b k cs hb
    exact ⟨e, a', w', hp, .of_steps (.one (fenced_calm (n := 0) trivial (room_wide _) rfl) stepR_loop) harr⟩
  | exit id => intro env h Q φ μ B w a _ _ r he hk; exact wpIn_exit ⟨.exit id, env, h, φ, μ, rfl, hk, he, r, Ext.refl _ _ _, Fr.refl _ _, Mk.refl _ _ _ _⟩
  | ret => intro env h Q φ μ B w a _ _ r he hk; exact wpIn_ret ⟨.ret, env, h, φ, μ, rfl, hk, he, r, Ext.refl _ _ _, Fr.refl _ _, Mk.refl _ _ _ _⟩
  | rangeFunc f ps assign body => intro env h Q φ μ B w a hro hB r he hk; exact RangeP.run hk ρ φ μ B w a hro hB r he
  | scope => intro env h Q φ μ B w a _ _ r he hk; cases hk
  | label => intro env h Q φ μ B w a _ _ r he hk; cases hk
  | goto => intro env h Q φ μ B w a _ _ r he hk; cases hk
  | refuse => intro env h Q φ μ B w a _ _ r he hk; cases hk
end

/-! ### Functions -/
def resV1 (T : Nat → Option TI) (env : List V) (h : Heap) : ResultVar → Option V
  | .tmp t => some (env.getD t .undef)
  | .cell x t =>
    match env.getD x .undef with
    | .ptr i q => (match hget h i with | some (.cells _ cs) => loadV T t cs q | _ => none)
    | _ => none

def retP (T : Nat → Option TI) (rs : List ResultVar) (env : List V) (h : Heap) (K : V → Heap → Prop) : Prop :=
  match rs with
  | [r] => (match resV1 T env h r with | some v => v.force fun v => K v h | none => False)
  | [] => K (.tup []) h
  | [r, s] => (match resV1 T env h r, resV1 T env h s with | some v, some u => v.force fun v => u.force fun u => K (.tup [v, u]) h | _, _ => False)
  | [r, s, t] => (match resV1 T env h r, resV1 T env h s, resV1 T env h t with | some v, some u, some x => v.force fun v => u.force fun u => x.force fun x => K (.tup [v, u, x]) h | _, _, _ => False)
  | _ => False

def bodyP (P : Program) (T : Nat → Option TI) (md : Nat → Bool) (fn : Func) (c : Code) (args : List V) (h : Heap) (K : V → Heap → Prop) : Prop :=
  forceL (args ++ List.replicate (fn.ntmps - args.length) .undef) fun env =>
    wpC P T md c env h fun x env' h' => match x with | .exit _ => False | _ => retP T fn.results.toList env' h' K

def resM (tmps : Array Value) : ResultVar → Go.Sem Value
  | .tmp t => pure (tmps.getD t Go.undef)
  | .cell a t => do loadVar t (← asAddr (tmps.getD a Go.undef))
theorem results_eq (fn : Func) (tmps : Array Value) : results fn tmps = (do
    let vs ← fn.results.mapM (resM tmps)
    pure (if h : vs.size = 1 then vs[0] else .tuple vs)) := rfl

theorem resV1_ok {P : Program} {T : Nat → Option TI} (hT : TOk P T) {φ : Phi} {μ : Mu} {B : Nat} {h : Heap} {w : World} {env : List V} {tmps : Array Value} (r : Rel φ μ B h w) (he : EnvR φ μ env tmps) {x : ResultVar} {v : V} (hv : resV1 T env h x = some v) :
    ∃ cv, (resM tmps x).run P w = .ok cv w ∧ Rv φ μ v cv := by
  cases x with
  | tmp t =>
    simp only [resV1, Option.some.injEq] at hv
    subst hv
    exact ⟨_, rfl, he.rv t⟩
  | cell a t =>
    simp only [resV1] at hv
    have ha := he.rv a
    generalize env.getD a .undef = va at hv ha
    generalize hca : tmps.getD a Go.undef = ca at ha
    split at hv
    · rename_i i q
      split at hv
      · rename_i e cs hh
        cases ha; rename_i b hb
        obtain ⟨c, h1, h23⟩ := hget_cells r hh hb
        obtain ⟨h2, h3⟩ := h23
        obtain ⟨cv, g1, g2⟩ := run_load_ok hT (off := 0) (c := fun j => c.getD j Go.undef) hv (fun j hj => by
          have : j < c.size := by omega
          simp [World.cell?, h1, this]) h3 (w := w) (b := b)
        rw [Nat.zero_add] at g1
        refine ⟨cv, ?_, g2⟩
        simp only [Instr.loadAt, Instr.sureAddr, Sem.run_bind, Sem.run_pure, Result.andThen_ok] at g1
        simp only [resM, hca, asAddr, Sem.run_bind, Sem.run_pure, Result.andThen_ok, g1]
      · cases hv
    · cases hv

theorem retP_ok {P : Program} {T : Nat → Option TI} (hT : TOk P T) {φ : Phi} {μ : Mu} {B : Nat} {h : Heap} {w : World} {env : List V} {tmps : Array Value} (r : Rel φ μ B h w) (he : EnvR φ μ env tmps) {fn : Func} {K : V → Heap → Prop} (hk : retP T fn.results.toList env h K) :
    ∃ v cv, (results fn tmps).run P w = .ok cv w ∧ K v h ∧ Rv φ μ v cv := by
  unfold retP at hk
  have hl : fn.results = fn.results.toList.toArray := by simp
  rw [results_eq, hl]
  generalize fn.results.toList = rs at hk
  split at hk
  · rename_i x
    split at hk
    · rename_i v hv
      rw [V.force_eq] at hk
      obtain ⟨cv, g1, g2⟩ := resV1_ok hT r he hv
      exact ⟨v, cv, by simp [g1], hk, g2⟩
    · cases hk
  · exact ⟨_, .tuple #[], by simp, hk, .tup _ _ _ rfl (fun j hj => by simp at hj)⟩
  · rename_i x y
    split at hk
    · rename_i v u hv hu
      simp only [V.force_eq] at hk
      obtain ⟨cv, g1, g2⟩ := resV1_ok hT r he hv
      obtain ⟨cu, g3, g4⟩ := resV1_ok hT r he hu
      refine ⟨_, .tuple #[cv, cu], by simp [g1, g3], hk, .tup _ _ _ rfl (fun j hj => ?_)⟩
      match j, hj with
      | 0, _ => exact g2
      | 1, _ => exact g4
    · cases hk
  · rename_i x y z
    split at hk
    · rename_i v u t hv hu ht
      simp only [V.force_eq] at hk
      obtain ⟨cv, g1, g2⟩ := resV1_ok hT r he hv
      obtain ⟨cu, g3, g4⟩ := resV1_ok hT r he hu
      obtain ⟨ct, g5, g6⟩ := resV1_ok hT r he ht
      refine ⟨_, .tuple #[cv, cu, ct], by simp [g1, g3, g5], hk, .tup _ _ _ rfl (fun j hj => ?_)⟩
      match j, hj with
      | 0, _ => exact g2
      | 1, _ => exact g4
      | 2, _ => exact g6
    · cases hk
  · cases hk

/-- The block of a mark is shut: nothing that is known speaks of it. -/
theorem Rel.shut {φ : Phi} {μ : Mu} {B : Nat} {h : Heap} {w : World} (r : Rel φ μ B h w) {b : Nat} {o : Obj} {ds : Option (List Deferred)} (hb : w.heap[b]? = some (.deferred ds)) (hm : ∀ i x, μ i ≠ some (b, x)) : Rel φ μ B h (w.putObj b o) := by
  refine ⟨r.glob, fun c q v hv => ?_, fun c n hn => ?_, r.inj, fun i c x hi => ?_, fun i k hk => ?_⟩
  · have h1 := r.cell c q v hv
    by_cases hc : c = b
    · subst hc
      simp only [World.cell?, hb] at h1
      cases h1
    · rw [← h1]
      exact World.cell?_of_block (World.putObj_heap_other hc)
  · obtain ⟨cs, e, fr, h1, h2⟩ := r.size c n hn
    by_cases hc : c = b
    · subst hc
      rw [hb] at h1; cases h1
    · exact ⟨cs, e, fr, (World.putObj_heap_other hc).trans h1, h2⟩
  · have := r.dom i c x hi
    rw [World.putObj_size]
    exact this
  · obtain ⟨c, x, h1, h2⟩ := r.blk i k hk
    have hc : c ≠ b := fun e => hm i x (e ▸ h1)
    exact ⟨c, x, h1, h2.mono φ.le_refl (Mu.le_refl _) (World.putObj_heap_other hc) (fun _ _ h => h)⟩

theorem Fr.shut {μ : Mu} {w0 w : World} (f : Fr μ w0 w) {b : Nat} {o : Obj} {ds : Option (List Deferred)} (h0 : w0.heap.size ≤ b) (hb : w.heap[b]? = some (.deferred ds)) : Fr μ w0 (w.putObj b o) := by
  refine ⟨f.os, f.tape, f.output, by rw [World.putObj_size]; exact f.size, fun k hk hn => (World.putObj_heap_other (by omega)).trans (f.block k hk hn), fun k r hk => ?_⟩
  obtain ⟨r', h'⟩ := f.loops k r hk
  have hne : k ≠ b := fun e => by subst e; rw [hb] at h'; cases h'
  exact ⟨r', (World.putObj_heap_other hne).trans h'⟩

theorem leaves_marks {P : Program} {fn : Func} {tmps : Array Value} {R : Ending → World → Prop} {φ : Phi} {μ μ' : Mu} {B : Nat} {h : Heap} {w0 : World} (fin : ∀ w', Rel φ μ' B h w' → Fr μ w0 w' → ∃ v, (results fn tmps).run P w' = .ok v w' ∧ R (.returned v) w') :
    ∀ (ms : List Nat) (w : World), Rel φ μ' B h w → Fr μ w0 w → ms.Nodup → (∀ r ∈ ms, w0.heap.size ≤ r ∧ w.heap[r]? = some (.deferred (some [])) ∧ ∀ i x, μ' i ≠ some (r, x)) → LeavesInM Fence.wide 0 P fn tmps R (ms.map markOf) .returning w
  | [], w, r, f, _, _ => by
    obtain ⟨v, h1, h2⟩ := fin w r f
    exact ⟨v, h1, h2⟩
  | m :: ms, w, r, f, hn, hm => by
    obtain ⟨h1, h2, h3⟩ := hm m (by simp)
    rw [List.nodup_cons] at hn
    refine ⟨by simp, .inl ⟨m, _, rfl, run_takeDeferred h2, ?_⟩⟩
    refine leaves_marks fin ms _ (r.shut h2 h3) (f.shut h1 h2) hn.2 fun q hq => ?_
    have hne : q ≠ m := fun e => hn.1 (e ▸ hq)
    have := hm q (by simp [hq])
    exact ⟨this.1, (World.putObj_heap_other hne).trans this.2.1, this.2.2⟩

theorem envR_start {φ : Phi} {μ : Mu} {args : List V} {cargs : Array Value} (ha : RvL φ μ args cargs) (n : Nat) : EnvR φ μ (args ++ List.replicate (n - args.length) .undef) (cargs ++ Array.replicate (n - cargs.size) Go.undef) := by
  refine ⟨by simp [ha.1], fun j => ?_⟩
  have l1 := ha.1
  by_cases hj : j < args.length
  · have e1 : (args ++ List.replicate (n - args.length) V.undef).getD j V.undef = args.getD j V.undef := by
      rw [List.getD_eq_getElem?_getD, List.getElem?_append_left hj, ← List.getD_eq_getElem?_getD]
    have e2 : (cargs ++ Array.replicate (n - cargs.size) Go.undef).getD j Go.undef = cargs.getD j Go.undef := by
      have : j < cargs.size := by omega
      simp [Array.getD_eq_getD_getElem?, Array.getElem?_append, this]
    rw [e1, e2]; exact ha.2 j
  · have e1 : (args ++ List.replicate (n - args.length) V.undef).getD j .undef = .undef := by
      rw [List.getD_eq_getElem?_getD, List.getElem?_append_right (Nat.le_of_not_lt hj)]
      simp only [List.getElem?_replicate]
      split <;> rfl
    rw [e1]; exact .undef _ _

theorem sem_body {P : Program} {T : Nat → Option TI} (hT : TOk P T) {g : FuncId} {fn : Func} {c : Code} {K : V → Heap → Prop} (hf : P.funcs[g]? = some fn) (hb : fn.body = some c) {φ : Phi} {μ : Mu} {B : Nat} {w : World} {cargs : Array Value}
    (hk : c.wpIn (fen none) 0 P (PostC φ μ B w [] fun x env' h' => match x with | .exit _ => False | _ => retP T fn.results.toList env' h' K) { tmps := cargs ++ Array.replicate (fn.ntmps - cargs.size) Go.undef, defers := [] } w) :
    Calls P g cargs w (Ret φ μ B w K) := by
  refine (callsIn_wide (n := 0)).1 (callsIn_of_wp_marks hf hb trivial (wpIn_mono hk ?_))
  rintro e a' w' ⟨x, env', h', φ', μ', rfl, hq, he', r', hx, hf', hd⟩
  obtain ⟨ms, hms, hn, hm⟩ := hd
  rw [List.append_nil] at hms
  have fin : retP T fn.results.toList env' h' K → LeavesInM Fence.wide 0 P fn a'.tmps (fun e w' => ∃ v h' φ' μ' cv, e = .returned cv ∧ K v h' ∧ Rv φ' μ' v cv ∧ Rel φ' μ' B h' w' ∧ Ext φ μ w φ' μ' ∧ Fr μ w w') a'.defers .returning w' := fun hr => by
    rw [hms]
    refine leaves_marks (fun w2 r2 f2 => ?_) ms w' r' hf' hn hm
    obtain ⟨v, cv, g1, g2, g3⟩ := retP_ok hT r2 he' hr
    exact ⟨cv, g1, v, h', φ', μ', cv, rfl, g2, g3, r2, hx, f2⟩
  cases x with
  | normal => exact fin hq
  | exit id => cases hq
  | ret => exact fin hq

theorem callFunc_enter {P : Program} {g : FuncId} {args : Array Value} {w : World} (h : ∃ fn, P.funcs[g]? = some fn ∧ fn.body.isSome = true ∧ (fn.name == "runtime.NumGoroutine") = false) : (callFunc g args).run P w = .ok (.enter g args) w := by
  obtain ⟨fn, h1, h2, h3⟩ := h
  have h4 : fn.body.isNone = false := by cases hb : fn.body <;> simp_all
  simp only [callFunc, Sem.run_bind, run_program, Result.andThen_ok, h1, h3, h4, Bool.false_eq_true, if_false, Sem.run_pure]

theorem Sem.of_body {P : Program} {T : Nat → Option TI} (hT : TOk P T) (md : Nat → Bool) {g : FuncId} {fn : Func} {c : Code} {args : List V} {h : Heap} {K : V → Heap → Prop} (hf : P.funcs[g]? = some fn) (hb : fn.body = some c) (hn : (fn.name == "runtime.NumGoroutine") = false)
    (hk : bodyP P T md fn c args h K) : Sem P g args h K := by
  refine ⟨fun φ μ B w cargs hB r ha => .inl ⟨callFunc_enter ⟨fn, hf, by rw [hb]; rfl, hn⟩, ?_⟩⟩
  unfold bodyP at hk
  rw [forceL_eq] at hk
  exact sem_body hT hf hb (wpC_ok hT none c _ h _ φ μ B w { tmps := cargs ++ Array.replicate (fn.ntmps - cargs.size) Go.undef, defers := [] } (RoOk.none w) hB r (envR_start ha _) hk)

end Go.Cx
