/- A calculus for calls of the program: canonical values and heaps, and what each operation, loop and call does to them; no condition on the program. -/
import Derived.Test.YtphpngpfllealaaCv7m
namespace Go.Cv
open Go.RowKit

def forceB {β : Type} (x : Option Blk) (k : Option Blk → β) : β :=
  match x with
  | none => k none
  | some (.cells cs) => fl2 cs fun cs => k (some (.cells cs))
  | some (.token a b) => k (some (.token a b))
  | some (.map es c) => k (some (.map es c))
theorem forceB_eq {β : Type} (x : Option Blk) (k : Option Blk → β) : forceB x k = k x := by
  unfold forceB
  split <;> simp [fl2_eq]
def forceH {β : Type} : Heap → (Heap → β) → β
  | [], k => k []
  | x :: xs, k => forceB x fun x => forceH xs fun ys => k (x :: ys)
theorem forceH_eq {β : Type} : ∀ (h : Heap) (k : Heap → β), forceH h k = k h
  | [], _ => rfl
  | x :: xs, k => by rw [forceH, forceB_eq, forceH_eq xs]

def putE (env : List V) (d : Option Tmp) (v : V) : List V :=
  match d with
  | some d => env.set d v
  | none => env

/-- Both ways of a test. -/
inductive BCase (b : Bool) (X Y : Prop) : Prop where
  | mk (t : b = true → X) (f : b = false → Y)
theorem BCase.yes {b : Bool} {X Y : Prop} (h : b = true) (x : X) : BCase b X Y := ⟨fun _ => x, fun e => by rw [h] at e; cases e⟩
theorem BCase.no {b : Bool} {X Y : Prop} (h : b = false) (y : Y) : BCase b X Y := ⟨fun e => (by rw [h] at e; cases e), fun _ => y⟩

def guardP (all : List Oper) (env : List V) (g : Option (Nat × Bool)) (run skip : Prop) : Prop :=
  match g with
  | none => run
  | some (j, want) =>
    match all[j]? with
    | some oj =>
      (match oj.dst with
      | some d => (match env.getD d .undef, want with | .bool b, true => BCase b run skip | .bool b, false => BCase b skip run | .tup [], _ => skip | _, _ => False)
      | none => False)
    | none => False

/-- The same; what is known of the test behind it is written into the temporary. -/
def guardN (all : List Oper) (env : List V) (g : Option (Nat × Bool)) (run skip : List V → Prop) : Prop :=
  match g with
  | none => run env
  | some (j, want) =>
    match all[j]? with
    | some oj =>
      (match oj.dst with
      | some d => (match env.getD d .undef, want with
        | .bool b, true => BCase b (forceL (env.set d (.bool true)) run) (forceL (env.set d (.bool false)) skip)
        | .bool b, false => BCase b (forceL (env.set d (.bool true)) skip) (forceL (env.set d (.bool false)) run)
        | .tup [], _ => skip env
        | _, _ => False)
      | none => False)
    | none => False

theorem set_same {env : List V} {d : Nat} {b : Bool} (h : env.getD d .undef = .bool b) : env.set d (.bool b) = env := by
  rw [List.getD_eq_getElem?_getD] at h
  rcases Nat.lt_or_ge d env.length with hd | hd
  · rw [List.getElem?_eq_getElem hd] at h
    simp only [Option.getD_some] at h
    rw [← h]
    exact List.set_getElem_self hd
  · rw [List.getElem?_eq_none hd] at h
    cases h

theorem guardN_old {all : List Oper} {env : List V} {g : Option (Nat × Bool)} {run skip : List V → Prop} (hk : guardN all env g run skip) : guardP all env g (run env) (skip env) := by
  unfold guardN at hk
  unfold guardP
  split at hk
  · exact hk
  · split at hk
    · split at hk
      · split at hk
        · rename_i b hb
          simp only [forceL_eq] at hk
          refine ⟨fun e => ?_, fun e => ?_⟩
          · subst e; have := hk.1 rfl; rwa [set_same hb] at this
          · subst e; have := hk.2 rfl; rwa [set_same hb] at this
        · rename_i b hb
          simp only [forceL_eq] at hk
          refine ⟨fun e => ?_, fun e => ?_⟩
          · subst e; have := hk.1 rfl; rwa [set_same hb] at this
          · subst e; have := hk.2 rfl; rwa [set_same hb] at this
        · exact hk
        · exact hk.elim
      · exact hk.elim
    · exact hk.elim

theorem guardN_mono {all : List Oper} {env : List V} {g : Option (Nat × Bool)} {a a' b b' : List V → Prop} (h1 : ∀ e, a e → a' e) (h2 : ∀ e, b e → b' e) (hk : guardN all env g a b) : guardN all env g a' b' := by
  unfold guardN at hk ⊢
  split at hk
  · exact h1 _ hk
  · split at hk
    · split at hk
      · split at hk
        · simp only [forceL_eq] at hk ⊢
          exact ⟨fun e => h1 _ (hk.1 e), fun e => h2 _ (hk.2 e)⟩
        · simp only [forceL_eq] at hk ⊢
          exact ⟨fun e => h2 _ (hk.1 e), fun e => h1 _ (hk.2 e)⟩
        · exact h2 _ hk
        · exact hk.elim
      · exact hk.elim
    · exact hk.elim

def stepP (P : Program) (T : Nat → Option TI) (all : List Oper) (o : Oper) (env : List V) (h : Heap) (J : List V → Heap → Prop) : Prop :=
  guardN all env o.guard
    (fun env => opP P T (evE env) h (fun v h' => v.force fun v => forceL (putE env o.dst v) fun env' => forceH h' fun h' => J env' h') o.op)
    (fun env => forceL (putE env o.dst (.tup [])) fun env' => J env' h)

/-- By the recursor itself: so a kernel's term of what is left is the elaborator's. -/
def regP (P : Program) (T : Nat → Option TI) (all l : List Oper) : List V → Heap → (List V → Heap → Prop) → Prop :=
  List.rec (motive := fun _ => List V → Heap → (List V → Heap → Prop) → Prop) (fun env h K => K env h) (fun o _ ih env h K => stepP P T all o env h fun env' h' => ih env' h' K) l
theorem regP_cons {P : Program} {T : Nat → Option TI} {all : List Oper} {o : Oper} {rest : List Oper} {env : List V} {h : Heap} {K : List V → Heap → Prop} : regP P T all (o :: rest) env h K = stepP P T all o env h fun env' h' => regP P T all rest env' h' K := rfl

inductive X where
  | normal
  | exit (id : Nat)
  | ret
def X.toExit : X → Exit
  | .normal => .normal
  | .exit id => .exit id
  | .ret => .ret

/-! Forgetting: temporaries may be struck, and blocks from some number on. -/
def V.under1 (m : Nat) : V → Bool
  | .ptr i _ => Nat.blt i m
  | .lsl i _ _ _ _ => Nat.blt i m
  | .map i => Nat.blt i m
  | .psl _ _ (.own i) => Nat.blt i m
  | .fn _ _ _ => false
  | .agg _ => false
  | .tup _ => false
  | _ => true
def V.under2 (m : Nat) : V → Bool
  | .fn _ a b => a.all (V.under1 m) && b.all (V.under1 m)
  | .agg cs => cs.all (V.under1 m)
  | .tup cs => cs.all (V.under1 m)
  | v => v.under1 m
def V.under (m : Nat) : V → Bool
  | .fn _ a b => a.all (V.under2 m) && b.all (V.under2 m)
  | .agg cs => cs.all (V.under2 m)
  | .tup cs => cs.all (V.under2 m)
  | v => v.under1 m
def Blk.under (m : Nat) : Option Blk → Bool
  | some (.cells cs) => cs.all (V.under m)
  | some (.token ..) => true
  | some (.map es _) => es.all fun x => x.1.under m && x.2.1.under m
  | none => true

def forgE : List V → List V → Prop
  | [], [] => True
  | x :: xs, y :: ys => (y = x ∨ y = .undef) ∧ forgE xs ys
  | _, _ => False

inductive Forg (m0 : Nat) (env : List V) (h : Heap) (env' : List V) (h' : Heap) : Prop where
  | same : forgE env env' → h' = h → Forg m0 env h env' h'
  | cut : forgE env env' → m0 ≤ h'.length → h' = h.take h'.length → (env'.all (V.under h'.length) && h'.all (Blk.under h'.length)) = true → Forg m0 env h env' h'

/-- The least that is closed under rounds. -/
structure LoopP (P : Program) (T : Nat → Option TI) (c : Code) (body : List V → Heap → (X → List V → Heap → Prop) → Prop) (m0 : Nat) (env : List V) (h : Heap) (Q : X → List V → Heap → Prop) : Prop where
  lfp : ∀ R : List V → Heap → Prop, (∀ env1 h1 env2 h2, Forg m0 env1 h1 env2 h2 → body env2 h2 (fun x env h => match x with | .normal => R env h | x => Q x env h) → R env1 h1) → R env h

structure DrawP (P : Program) (T : Nat → Option TI) (ops : List Oper) (env : List V) (h : Heap) (K : List V → Heap → Prop) : Prop where
  run : ∀ (φ : Phi) (μ : Mu) (B : Nat) (w : World) (a : Act) (id : Nat), B ≤ w.heap.size → Rel φ μ B h w → EnvR φ μ env a.tmps →
    (Code.region id ops.toArray true).wp P (fun e a' w' => ∃ env' h' φ' μ', e = .normal ∧ K env' h' ∧ EnvR φ' μ' env' a'.tmps ∧ Rel φ' μ' B h' w' ∧ Ext φ μ w φ' μ' ∧ Fr μ w w' ∧ a'.defers = a.defers) a w

abbrev WP := List V → Heap → (X → List V → Heap → Prop) → Prop
def regC (P : Program) (T : Nat → Option TI) (ops : Array Oper) (draw : Bool) : WP := fun env h Q => forceL ops.toList fun l => cond draw (DrawP P T l env h (Q .normal)) (regP P T l l env h (Q .normal))
def seqC (a b : WP) : WP := fun env h Q => a env h fun x env h => match x with | .normal => b env h Q | x => Q x env h
def condC (c : Operand) (a b : WP) : WP := fun env h Q => (match evE env c with | .bool t => BCase t (a env h Q) (b env h Q) | _ => False)
def blockC (id : Nat) (a : WP) : WP := fun env h Q => a env h fun x env h => match x with | .exit i => cond (i == id) (Q .normal env h) (Q (.exit i) env h) | x => Q x env h

def wpC (P : Program) (T : Nat → Option TI) (c : Code) : WP :=
  Code.rec (motive := fun _ => WP) (fun env h Q => Q .normal env h) (fun _ ops draw => regC P T ops draw) (fun _ _ a b => seqC a b) (fun c _ _ a b => condC c a b) (fun id _ a => blockC id a)
    (fun c a env h Q => LoopP P T c a h.length env h Q) (fun _ _ _ _ _ _ _ _ _ => False) (fun id env h Q => Q (.exit id) env h) (fun _ _ _ _ _ => False) (fun _ _ _ _ => False) (fun _ _ _ _ => False)
    (fun env h Q => Q .ret env h) (fun _ _ _ _ => False) c

/-! ### Soundness -/
def PostC (φ : Phi) (μ : Mu) (B : Nat) (w : World) (d : List Deferred) (Q : X → List V → Heap → Prop) : Exit → Act → World → Prop := fun e a' w' =>
  ∃ x env' h' φ' μ', e = X.toExit x ∧ Q x env' h' ∧ EnvR φ' μ' env' a'.tmps ∧ Rel φ' μ' B h' w' ∧ Ext φ μ w φ' μ' ∧ Fr μ w w' ∧ a'.defers = d

theorem PostC.trans {φ φ1 : Phi} {μ μ1 : Mu} {B : Nat} {w w1 : World} {d : List Deferred} {Q : X → List V → Heap → Prop} (hx : Ext φ μ w φ1 μ1) (hf : Fr μ w w1) {e : Exit} {a : Act} {w' : World} (h : PostC φ1 μ1 B w1 d Q e a w') : PostC φ μ B w d Q e a w' := by
  obtain ⟨x, env', h', φ', μ', h1, h2, h3, h4, h5, h6, h7⟩ := h
  exact ⟨x, env', h', φ', μ', h1, h2, h3, h4, hx.trans hf.size h5, hf.trans hx h6, h7⟩

/-- Blocks from m on are struck. -/
def Mu.upto (μ : Mu) (m : Nat) : Mu := fun i => if i < m then μ i else none

theorem below1_rv {φ : Phi} {μ : Mu} {m : Nat} {v : V} {c : Value} (h : Rv φ μ v c) (hb : v.under1 m = true) : Rv φ (μ.upto m) v c := by
  cases h with
  | undef => exact .undef _ _
  | bool => exact .bool _ _
  | int => exact .int _ _ _
  | str => exact .str _ _
  | nilp => exact .nilp _
  | ptr _ id off b hm => exact .ptr _ _ _ _ (by unfold Mu.upto; rw [if_pos (by simpa [V.under1, Nat.blt_eq] using hb)]; exact hm)
  | iptr _ cs b off c h1 h2 => exact .iptr _ _ _ _ c h1 h2
  | fn => cases hb
  | nilfn => exact .nilfn _
  | nils => exact .nils _
  | psl0 => exact .psl0 _ _ _ _
  | psl _ sz xs tok b off cap c h0 h1 h2 h3 h4 =>
    refine .psl _ _ _ _ _ _ _ c h0 h1 h2 h3 ?_
    cases tok with
    | any => trivial
    | exact => exact h4
    | own id =>
      obtain ⟨b', m', g1, g2⟩ := h4
      exact ⟨b', m', by unfold Mu.upto; rw [if_pos (by simpa [V.under1, Nat.blt_eq] using hb)]; exact g1, g2⟩
  | lsl _ id sz off n cap b hm h' => exact .lsl _ _ _ _ _ _ _ (by unfold Mu.upto; rw [if_pos (by simpa [V.under1, Nat.blt_eq] using hb)]; exact hm) h'
  | map _ id b hm => exact .map _ _ _ (by unfold Mu.upto; rw [if_pos (by simpa [V.under1, Nat.blt_eq] using hb)]; exact hm)
  | agg => cases hb
  | tup => cases hb

theorem mem_getD {l : List V} {j : Nat} (hj : j < l.length) : l.getD j .undef ∈ l := by
  rw [List.getD_eq_getElem?_getD, List.getElem?_eq_getElem hj]; exact List.getElem_mem hj

theorem all_getD {l : List V} {p : V → Bool} (h : l.all p = true) {j : Nat} (hj : j < l.length) : p (l.getD j .undef) = true := by
  rw [List.all_eq_true] at h
  exact h _ (mem_getD hj)

theorem below2_rv {φ : Phi} {μ : Mu} {m : Nat} {v : V} {c : Value} (h : Rv φ μ v c) (hb : v.under2 m = true) : Rv φ (μ.upto m) v c := by
  unfold V.under2 at hb
  split at hb
  · simp only [Bool.and_eq_true] at hb
    cases h with
    | fn _ f a b cf cc l1 l2 h1 h2 => exact .fn _ _ _ _ _ _ l1 l2 (fun j hj => below1_rv (h1 j hj) (all_getD hb.1 hj)) (fun j hj => below1_rv (h2 j hj) (all_getD hb.2 hj))
  · obtain ⟨cs, rfl, hA⟩ := h.agg_inv
    exact .agg _ _ _ hA.1 (fun j hj => below1_rv (hA.2 j hj) (all_getD hb hj))
  · obtain ⟨cs, rfl, hA⟩ := h.tup_inv
    exact .tup _ _ _ hA.1 (fun j hj => below1_rv (hA.2 j hj) (all_getD hb hj))
  · exact below1_rv h hb

theorem below_rv {φ : Phi} {μ : Mu} {m : Nat} {v : V} {c : Value} (h : Rv φ μ v c) (hb : v.under m = true) : Rv φ (μ.upto m) v c := by
  unfold V.under at hb
  split at hb
  · simp only [Bool.and_eq_true] at hb
    cases h with
    | fn _ f a b cf cc l1 l2 h1 h2 => exact .fn _ _ _ _ _ _ l1 l2 (fun j hj => below2_rv (h1 j hj) (all_getD hb.1 hj)) (fun j hj => below2_rv (h2 j hj) (all_getD hb.2 hj))
  · obtain ⟨cs, rfl, hA⟩ := h.agg_inv
    exact .agg _ _ _ hA.1 (fun j hj => below2_rv (hA.2 j hj) (all_getD hb hj))
  · obtain ⟨cs, rfl, hA⟩ := h.tup_inv
    exact .tup _ _ _ hA.1 (fun j hj => below2_rv (hA.2 j hj) (all_getD hb hj))
  · exact below1_rv h hb

theorem forgE_ok {φ : Phi} {μ : Mu} : ∀ (env env' : List V), forgE env env' → env'.length = env.length ∧ ∀ (j : Nat) (c : Value), Rv φ μ (env.getD j .undef) c → Rv φ μ (env'.getD j .undef) c
  | [], [], _ => ⟨rfl, fun j c h => h⟩
  | x :: xs, y :: ys, h => by
    obtain ⟨h1, h2⟩ := h
    obtain ⟨l, hr⟩ := forgE_ok (φ := φ) (μ := μ) xs ys h2
    refine ⟨by simp [l], fun j c hc => ?_⟩
    cases j with
    | zero =>
      rcases h1 with rfl | rfl
      · exact hc
      · exact .undef _ _
    | succ j => simpa using hr j c (by simpa using hc)
  | [], _ :: _, h => by cases h
  | _ :: _, [], h => by cases h

theorem cut_rel {φ : Phi} {μ : Mu} {B : Nat} {h : Heap} {w : World} (r : Rel φ μ B h w) {m : Nat} (hm : m ≤ h.length) (hb : (h.take m).all (Blk.under m) = true) : Rel φ (μ.upto m) B (h.take m) w := by
  have sub : ∀ i x, μ.upto m i = some x → i < m ∧ μ i = some x := fun i x hx => by
    unfold Mu.upto at hx
    split at hx
    · rename_i hi; exact ⟨hi, hx⟩
    · cases hx
  refine ⟨r.cell, r.size, fun i j b x y hi hj => r.inj i j b x y (sub i _ hi).2 (sub j _ hj).2, fun i b x hi => ?_, fun i k hk => ?_⟩
  · have := r.dom i b x (sub i _ hi).2
    exact ⟨by simp; have := (sub i _ hi).1; omega, this.2⟩
  · have him : i < m := by
      rcases Nat.lt_or_ge i m with h' | h'
      · exact h'
      · unfold hget at hk; rw [List.getElem?_eq_none (by simp; omega)] at hk; cases hk
    have hk' : hget h i = some k := by
      unfold hget at hk ⊢
      rwa [List.getElem?_take_of_lt him] at hk
    obtain ⟨b, x, h1, h2⟩ := r.blk i k hk'
    refine ⟨b, x, by unfold Mu.upto; rw [if_pos him]; exact h1, ?_⟩
    have hbk : Blk.under m (some k) = true := by
      rw [List.all_eq_true] at hb
      refine hb _ ?_
      unfold hget at hk
      cases hq : (h.take m)[i]? with
      | none => rw [hq] at hk; cases hk
      | some o =>
        rw [hq] at hk
        simp only [Option.join_some] at hk
        subst hk
        exact List.mem_of_getElem? hq
    cases k with
    | cells cs =>
      obtain ⟨g0, c, e, g1, g2, g3, g4⟩ := h2
      exact ⟨g0, c, e, g1, g2, fun j hj => below_rv (g3 j hj) (all_getD hbk hj), g4⟩
    | token sz n => exact h2
    | map es clock =>
      obtain ⟨g0, c, g1, g2, g3⟩ := h2
      refine ⟨g0, c, g1, g2, fun j x y hx hy => ?_⟩
      obtain ⟨k1, k2, k3⟩ := g3 j x y hx hy
      simp only [Blk.under, List.all_eq_true] at hbk
      have := hbk x (List.mem_of_getElem? hx)
      simp only [Bool.and_eq_true] at this
      exact ⟨below_rv k1 this.1, below_rv k2 this.2, k3⟩

theorem forg_ok {φ0 φ : Phi} {μ0 μ : Mu} {B m0 : Nat} {h1 h2 : Heap} {w0 w : World} {env1 env2 : List V} {tmps : Array Value} (hm0 : ∀ i b x, μ0 i = some (b, x) → i < m0) (hx : Ext φ0 μ0 w0 φ μ) (r : Rel φ μ B h1 w) (he : EnvR φ μ env1 tmps) (hf : Forg m0 env1 h1 env2 h2) :
    ∃ μ2, Ext φ0 μ0 w0 φ μ2 ∧ Rel φ μ2 B h2 w ∧ EnvR φ μ2 env2 tmps := by
  cases hf with
  | same hE hh =>
    subst hh
    obtain ⟨l, hr⟩ := forgE_ok (φ := φ) (μ := μ) env1 env2 hE
    exact ⟨μ, hx, r, ⟨l.trans he.size, fun j => hr j _ (he.rv j)⟩⟩
  | cut hE hm hh hb =>
    obtain ⟨l, hr⟩ := forgE_ok (φ := φ) (μ := μ) env1 env2 hE
    simp only [Bool.and_eq_true] at hb
    have hle : h2.length ≤ h1.length := by rw [hh]; simp; omega
    generalize hl : h2.length = m at *
    subst hh
    refine ⟨μ.upto m, ⟨hx.phi, fun i x hi => ?_, fun i b x hi => ?_, hx.cells⟩, cut_rel r hle hb.2, ⟨l.trans he.size, fun j => ?_⟩⟩
    · have him := hm0 i x.1 x.2 hi
      have e : μ.upto m i = μ i := by unfold Mu.upto; rw [if_pos (by omega)]
      rw [e]
      exact hx.mu i x hi
    · unfold Mu.upto at hi
      split at hi
      · exact hx.fresh i b x hi
      · cases hi
    · have h3 := hr j _ (he.rv j)
      by_cases hj : j < env2.length
      · exact below_rv h3 (all_getD hb.1 hj)
      · have : env2.getD j .undef = .undef := by simp [List.getElem?_eq_none (Nat.le_of_not_lt hj)]
        rw [this]; exact .undef _ _

theorem rv_skip (φ : Phi) (μ : Mu) : Rv φ μ (.tup []) Go.undef := .tup _ _ _ rfl (fun j hj => by simp at hj)
theorem yielded_none {φ : Phi} {μ : Mu} {env : List V} {tmps : Array Value} (he : EnvR φ μ env tmps) {ops : Array Oper} {j d : Nat} {oj : Oper} (h1 : ops[j]? = some oj) (h2 : oj.dst = some d) (h3 : env.getD d .undef = .tup []) : yielded ops tmps j = none := by
  have h4 := he.rv d
  rw [h3] at h4
  have hd : ∀ b, tmps[d]? ≠ some (.bool b) := by
    intro b hb
    have e : tmps.getD d Go.undef = .bool b := by rw [Array.getD_eq_getD_getElem?, hb]; rfl
    rw [e] at h4
    cases h4
  have e : yielded ops tmps j = (match tmps[d]? with | some (.bool b) => some b | _ => none) := by simp [yielded, h1, h2]
  rw [e]
  split
  · rename_i b hb; exact absurd hb (hd b)
  · rfl
theorem yielded_bool {φ : Phi} {μ : Mu} {env : List V} {tmps : Array Value} (he : EnvR φ μ env tmps) {ops : Array Oper} {j d : Nat} {oj : Oper} {b : Bool} (h1 : ops[j]? = some oj) (h2 : oj.dst = some d) (h3 : env.getD d .undef = .bool b) : yielded ops tmps j = some b := by
  have h4 := he.rv d
  rw [h3] at h4
  have hd : tmps[d]? = some (.bool b) := by
    rcases Nat.lt_or_ge d tmps.size with h' | h'
    · have e : tmps.getD d Go.undef = tmps[d] := by simp [h']
      rw [e] at h4
      generalize hq : tmps[d] = q at h4
      cases h4
      rw [Array.getElem?_eq_getElem h', hq]
    · have e : tmps.getD d Go.undef = Go.undef := by simp [Array.getElem?_eq_none h']
      rw [e] at h4
      cases h4
  simp [yielded, h1, h2, hd]

section
variable {P : Program} {T : Nat → Option TI} (hT : TOk P T)
include hT

theorem regP_ok (all : List Oper) (Q : Exit → Act → World → Prop) {K : List V → Heap → Prop} : ∀ (l : List Oper) (env : List V) (h : Heap) (φ : Phi) (μ : Mu) (B : Nat) (w : World) (a : Act),
    B ≤ w.heap.size → Rel φ μ B h w → EnvR φ μ env a.tmps → regP P T all l env h K →
    (∀ env' h' φ' μ' a' w', K env' h' → EnvR φ' μ' env' a'.tmps → Rel φ' μ' B h' w' → Ext φ μ w φ' μ' → Fr μ w w' → a'.defers = a.defers → Q .normal a' w') → wpList P all.toArray Q l a w := by
  intro l
  induction l with
  | nil =>
    intro env h φ μ B w a hB r he hk hQ
    exact hQ env h φ μ a w hk he r (Ext.refl _ _ _) (Fr.refl _ _) rfl
  | cons o rest ih =>
    intro env h φ μ B w a hB r he hk hQ
    have hrun : (opP P T (evE env) h (fun v h' => v.force fun v => forceL (putE env o.dst v) fun env' => forceH h' fun h' => regP P T all rest env' h' K) o.op) → o.wp P a w (wpList P all.toArray Q rest) Q := fun ho => by
      have := opP_ok hT hB r (fun x => he.eval x) Q o ho
      refine Oper.wp_mono (fun a' w' hd => ?_) this
      obtain ⟨cv, rfl, v, h', φ', μ', hk', hv, r', hx, hf⟩ := hd
      simp only [V.force_eq, forceL_eq, forceH_eq] at hk'
      refine ih _ h' φ' μ' B w' (a.put o.dst cv) (Nat.le_trans hB hf.size) r' ?_ hk' (fun env'' h'' φ'' μ'' a'' w'' k1 k2 k3 k4 k5 k6 => hQ env'' h'' φ'' μ'' a'' w'' k1 k2 k3 (hx.trans hf.size k4) (hf.trans hx k5) (k6.trans ?_))
      · exact (he.mono hx.phi hx.mu).put hv o.dst
      · cases o.dst <;> rfl
    have hskip : (forceL (putE env o.dst (.tup [])) fun env' => regP P T all rest env' h K) → wpList P all.toArray Q rest (a.put o.dst Go.undef) w := fun hs => by
      rw [forceL_eq] at hs
      refine ih _ h φ μ B w (a.put o.dst Go.undef) hB r (he.put (rv_skip _ _) o.dst) hs (fun env'' h'' φ'' μ'' a'' w'' k1 k2 k3 k4 k5 k6 => hQ env'' h'' φ'' μ'' a'' w'' k1 k2 k3 k4 k5 (k6.trans ?_))
      cases o.dst <;> rfl
    unfold wpList
    rw [regP_cons] at hk
    unfold stepP at hk
    replace hk := guardN_old hk
    dsimp only at hk
    unfold guardP at hk
    split at hk
    · rename_i hg
      rw [if_pos (by simp [Region.wanted, hg])]
      exact .inl (hrun hk)
    · rename_i j want hg
      split at hk
      · rename_i oj hoj
        split at hk
        · rename_i d hd
          have hoj' : all.toArray[j]? = some oj := by simpa using hoj
          split at hk
          · rename_i b hb
            have hy := yielded_bool he hoj' hd hb
            cases b with
            | true =>
              rw [if_pos (by simp [Region.wanted, hg, hy])]
              exact .inl (hrun (hk.1 rfl))
            | false =>
              rw [if_neg (by simp [Region.wanted, hg, hy])]
              exact hskip (hk.2 rfl)
          · rename_i b hb
            have hy := yielded_bool he hoj' hd hb
            cases b with
            | true =>
              rw [if_neg (by simp [Region.wanted, hg, hy])]
              exact hskip (hk.1 rfl)
            | false =>
              rw [if_pos (by simp [Region.wanted, hg, hy])]
              exact .inl (hrun (hk.2 rfl))
          · rename_i hb
            have hy := yielded_none he hoj' hd hb
            rw [if_neg (by simp [Region.wanted, hg, hy])]
            exact hskip hk
          · cases hk
        · cases hk
      · cases hk

omit hT in
theorem loop_ok {c : Code} (hc : ∀ (env : List V) (h : Heap) (Q : X → List V → Heap → Prop) (φ : Phi) (μ : Mu) (B : Nat) (w : World) (a : Act), B ≤ w.heap.size → Rel φ μ B h w → EnvR φ μ env a.tmps → wpC P T c env h Q → c.wp P (PostC φ μ B w a.defers Q) a w)
    (env0 : List V) (h0 : Heap) (Q : X → List V → Heap → Prop) (φ0 : Phi) (μ0 : Mu) (B : Nat) (w0 : World) (a0 : Act) (hB0 : B ≤ w0.heap.size) (r0 : Rel φ0 μ0 B h0 w0) (he0 : EnvR φ0 μ0 env0 a0.tmps) (hk : LoopP P T c (wpC P T c) h0.length env0 h0 Q) :
      ∀ (b : Frame) (k : List Item) (cs : List Frame), ∃ e a' w', PostC φ0 μ0 B w0 a0.defers Q e a' w' ∧ Arrives P (lone (b.at a0 (.code c :: .inLoop c :: k)) cs w0) b k cs e a' w' := by
  refine hk.lfp (fun env h => ∀ (φ : Phi) (μ : Mu) (w : World) (a : Act), Ext φ0 μ0 w0 φ μ → Fr μ0 w0 w → Rel φ μ B h w → EnvR φ μ env a.tmps → a.defers = a0.defers → ∀ (b : Frame) (k : List Item) (cs : List Frame),
    ∃ e a' w', PostC φ0 μ0 B w0 a0.defers Q e a' w' ∧ Arrives P (lone (b.at a (.code c :: .inLoop c :: k)) cs w) b k cs e a' w') ?_ φ0 μ0 w0 a0 (Ext.refl _ _ _) (Fr.refl _ _) r0 he0 rfl
  intro env1 h1 env2 h2 hforg hbody φ μ w a hx hf r he hd b k cs
  obtain ⟨μ2, hx2, r2, he2⟩ := forg_ok (m0 := h0.length) (fun i b x hi => (r0.dom i b x hi).1) hx r he hforg
  obtain ⟨e, a1, w1, hp, harr⟩ := hc env2 h2 _ φ μ2 B w a (Nat.le_trans hB0 hf.size) r2 he2 hbody b (.inLoop c :: k) cs
  obtain ⟨x, env', h', φ', μ', rfl, hq, he', r', hx', hf', hd'⟩ := hp
  have hxx := hx2.trans hf.size hx'
  have hff := hf.trans hx2 hf'
  cases x with
  | normal =>
    obtain ⟨e2, a2, w2, hp2, harr2⟩ := hq φ' μ' w1 a1 hxx hff r' he' (hd'.trans hd) b k cs
    exact ⟨e2, a2, w2, hp2, .of_steps (Steps.trans harr (.one step_inLoop)) harr2⟩
  | exit id => exact ⟨_, a1, w1, ⟨.exit id, env', h', φ', μ', rfl, hq, he', r', hxx, hff, hd'.trans hd⟩, .pass (x := .inLoop c) rfl (fun _ _ => .inl (by simp [X.toExit])) harr⟩
  | ret => exact ⟨_, a1, w1, ⟨.ret, env', h', φ', μ', rfl, hq, he', r', hxx, hff, hd'.trans hd⟩, .pass (x := .inLoop c) rfl (fun _ _ => .inl (by simp [X.toExit])) harr⟩

theorem wpC_ok (c : Code) : ∀ (env : List V) (h : Heap) (Q : X → List V → Heap → Prop) (φ : Phi) (μ : Mu) (B : Nat) (w : World) (a : Act), B ≤ w.heap.size → Rel φ μ B h w → EnvR φ μ env a.tmps → wpC P T c env h Q → c.wp P (PostC φ μ B w a.defers Q) a w := by
  induction c with
  | skip => intro env h Q φ μ B w a _ r he hk; exact wp_skip ⟨.normal, env, h, φ, μ, rfl, hk, he, r, Ext.refl _ _ _, Fr.refl _ _, rfl⟩
  | region id ops draw =>
    intro env h Q φ μ B w a hB r he hk
    replace hk : forceL ops.toList fun l => cond draw (DrawP P T l env h (Q .normal)) (regP P T l l env h (Q .normal)) := hk
    rw [forceL_eq] at hk
    cases draw with
    | true =>
      have := DrawP.run hk φ μ B w a id hB r he
      simp only [Array.toArray_toList] at this
      exact wp_mono this fun e a' w' ⟨env', h', φ', μ', he, rest⟩ => ⟨.normal, env', h', φ', μ', he, rest⟩
    | false =>
      refine wp_region_list ?_
      have := regP_ok hT ops.toList (PostC φ μ B w a.defers Q) ops.toList env h φ μ B w a hB r he hk (fun env' h' φ' μ' a' w' k1 k2 k3 k4 k5 k6 => ⟨.normal, env', h', φ', μ', rfl, k1, k2, k3, k4, k5, k6⟩)
      simpa using this
  | seq x y ihx ihy =>
    intro env h Q φ μ B w a hB r he hk
    refine wp_seq (wp_mono (ihx env h _ φ μ B w a hB r he hk) ?_)
    rintro e a' w' ⟨x, env', h', φ', μ', rfl, hq, he', r', hx, hf, hd⟩
    cases x with
    | normal =>
      have := ihy env' h' Q φ' μ' B w' a' (Nat.le_trans hB hf.size) r' he' hq
      rw [hd] at this
      exact wp_mono this fun _ _ _ hp => hp.trans hx hf
    | exit id => exact ⟨.exit id, env', h', φ', μ', rfl, hq, he', r', hx, hf, hd⟩
    | ret => exact ⟨.ret, env', h', φ', μ', rfl, hq, he', r', hx, hf, hd⟩
  | cond c x y ihx ihy =>
    intro env h Q φ μ B w a hB r he hk
    replace hk : (match evE env c with | .bool t => BCase t (wpC P T x env h Q) (wpC P T y env h Q) | _ => False) := hk
    have hc := he.eval c
    generalize evE env c = vc at hk hc
    generalize hcc : a.eval c = cc at hc
    split at hk
    · rename_i b
      cases hc
      refine wp_cond hcc ?_
      cases b with
      | true => exact ihx env h Q φ μ B w a hB r he (hk.1 rfl)
      | false => exact ihy env h Q φ μ B w a hB r he (hk.2 rfl)
    · cases hk
  | block id c ih =>
    intro env h Q φ μ B w a hB r he hk
    refine wp_block (wp_mono (ih env h _ φ μ B w a hB r he hk) ?_)
    rintro e a' w' ⟨x, env', h', φ', μ', rfl, hq, he', r', hx, hf, hd⟩
    cases x with
    | normal => exact ⟨.normal, env', h', φ', μ', rfl, hq, he', r', hx, hf, hd⟩
    | exit i =>
      simp only [X.toExit, Exit.inBlock]
      by_cases hi : i = id
      · rw [if_pos hi]
        have : (i == id) = true := by simpa using hi
        simp only [this, cond_true] at hq
        exact ⟨.normal, env', h', φ', μ', rfl, hq, he', r', hx, hf, hd⟩
      · rw [if_neg hi]
        have : (i == id) = false := by simpa using hi
        simp only [this, cond_false] at hq
        exact ⟨.exit i, env', h', φ', μ', rfl, hq, he', r', hx, hf, hd⟩
    | ret => exact ⟨.ret, env', h', φ', μ', rfl, hq, he', r', hx, hf, hd⟩
  | loop c ih =>
    intro env h Q φ μ B w a hB r he hk b k cs
    obtain ⟨e, a', w', hp, harr⟩ := loop_ok (T := T) (c := c) ih env h Q φ μ B w a hB r he hk b k cs
    exact ⟨e, a', w', hp, .of_steps (.one step_loop) harr⟩
  | exit id => intro env h Q φ μ B w a _ r he hk; exact wp_exit ⟨.exit id, env, h, φ, μ, rfl, hk, he, r, Ext.refl _ _ _, Fr.refl _ _, rfl⟩
  | ret => intro env h Q φ μ B w a _ r he hk; exact wp_ret ⟨.ret, env, h, φ, μ, rfl, hk, he, r, Ext.refl _ _ _, Fr.refl _ _, rfl⟩
  | rangeFunc => intro env h Q φ μ B w a _ r he hk; cases hk
  | scope => intro env h Q φ μ B w a _ r he hk; cases hk
  | label => intro env h Q φ μ B w a _ r he hk; cases hk
  | goto => intro env h Q φ μ B w a _ r he hk; cases hk
  | refuse => intro env h Q φ μ B w a _ r he hk; cases hk
end

/-! ### Functions -/
def resV1 (T : Nat → Option TI) (env : List V) (h : Heap) : ResultVar → Option V
  | .tmp t => some (env.getD t .undef)
  | .cell x t =>
    match env.getD x .undef with
    | .ptr i q => (match hget h i with | some (.cells cs) => loadV T t cs q | _ => none)
    | _ => none

def retP (T : Nat → Option TI) (rs : List ResultVar) (env : List V) (h : Heap) (K : V → Heap → Prop) : Prop :=
  match rs with
  | [r] => (match resV1 T env h r with | some v => v.force fun v => K v h | none => False)
  | [] => K (.tup []) h
  | [r, s] => (match resV1 T env h r, resV1 T env h s with | some v, some u => v.force fun v => u.force fun u => K (.tup [v, u]) h | _, _ => False)
  | [r, s, t] => (match resV1 T env h r, resV1 T env h s, resV1 T env h t with | some v, some u, some x => v.force fun v => u.force fun u => x.force fun x => K (.tup [v, u, x]) h | _, _, _ => False)
  | _ => False

def bodyP (P : Program) (T : Nat → Option TI) (fn : Func) (c : Code) (args : List V) (h : Heap) (K : V → Heap → Prop) : Prop :=
  forceL (args ++ List.replicate (fn.ntmps - args.length) .undef) fun env =>
    wpC P T c env h fun x env' h' => match x with | .exit _ => False | _ => retP T fn.results.toList env' h' K

def resM (tmps : Array Value) : ResultVar → Go.Sem Value
  | .tmp t => pure (tmps.getD t Go.undef)
  | .cell a t => do loadVar t (← asAddr (tmps.getD a Go.undef))
theorem results_eq (fn : Func) (tmps : Array Value) : results fn tmps = (do
    let vs ← fn.results.mapM (resM tmps)
    pure (if h : vs.size = 1 then vs[0] else .tuple vs)) := rfl

theorem resV1_ok {P : Program} {T : Nat → Option TI} (hT : TOk P T) {φ : Phi} {μ : Mu} {B : Nat} {h : Heap} {w : World} {env : List V} {tmps : Array Value} (r : Rel φ μ B h w) (he : EnvR φ μ env tmps) {x : ResultVar} {v : V} (hv : resV1 T env h x = some v) :
    ∃ cv, (resM tmps x).run P w = .ok cv w ∧ Rv φ μ v cv := by
  cases x with
  | tmp t =>
    simp only [resV1, Option.some.injEq] at hv
    subst hv
    exact ⟨_, rfl, he.rv t⟩
  | cell a t =>
    simp only [resV1] at hv
    have ha := he.rv a
    generalize env.getD a .undef = va at hv ha
    generalize hca : tmps.getD a Go.undef = ca at ha
    split at hv
    · rename_i i q
      split at hv
      · rename_i cs hh
        cases ha; rename_i b hb
        obtain ⟨b', x', hb', h0, c, e, h1, h2, h3, h4⟩ := r.blk i _ hh
        rw [hb] at hb'
        simp only [Option.some.injEq, Prod.mk.injEq] at hb'
        obtain ⟨rfl, _⟩ := hb'
        obtain ⟨cv, g1, g2⟩ := run_load_ok hT (off := 0) (c := fun j => c.getD j Go.undef) hv (fun j hj => by
          have : j < c.size := by omega
          simp [World.cell?, h1, this]) h3 (w := w) (b := b)
        rw [Nat.zero_add] at g1
        refine ⟨cv, ?_, g2⟩
        simp only [Instr.loadAt, Instr.sureAddr, Sem.run_bind, Sem.run_pure, Result.andThen_ok] at g1
        simp only [resM, hca, asAddr, Sem.run_bind, Sem.run_pure, Result.andThen_ok, g1]
      · cases hv
    · cases hv

theorem retP_ok {P : Program} {T : Nat → Option TI} (hT : TOk P T) {φ : Phi} {μ : Mu} {B : Nat} {h : Heap} {w : World} {env : List V} {tmps : Array Value} (r : Rel φ μ B h w) (he : EnvR φ μ env tmps) {fn : Func} {K : V → Heap → Prop} (hk : retP T fn.results.toList env h K) :
    ∃ v cv, (results fn tmps).run P w = .ok cv w ∧ K v h ∧ Rv φ μ v cv := by
  unfold retP at hk
  have hl : fn.results = fn.results.toList.toArray := by simp
  rw [results_eq, hl]
  generalize fn.results.toList = rs at hk
  split at hk
  · rename_i x
    split at hk
    · rename_i v hv
      rw [V.force_eq] at hk
      obtain ⟨cv, g1, g2⟩ := resV1_ok hT r he hv
      exact ⟨v, cv, by simp [g1], hk, g2⟩
    · cases hk
  · exact ⟨_, .tuple #[], by simp, hk, .tup _ _ _ rfl (fun j hj => by simp at hj)⟩
  · rename_i x y
    split at hk
    · rename_i v u hv hu
      simp only [V.force_eq] at hk
      obtain ⟨cv, g1, g2⟩ := resV1_ok hT r he hv
      obtain ⟨cu, g3, g4⟩ := resV1_ok hT r he hu
      refine ⟨_, .tuple #[cv, cu], by simp [g1, g3], hk, .tup _ _ _ rfl (fun j hj => ?_)⟩
      match j, hj with
      | 0, _ => exact g2
      | 1, _ => exact g4
    · cases hk
  · rename_i x y z
    split at hk
    · rename_i v u t hv hu ht
      simp only [V.force_eq] at hk
      obtain ⟨cv, g1, g2⟩ := resV1_ok hT r he hv
      obtain ⟨cu, g3, g4⟩ := resV1_ok hT r he hu
      obtain ⟨ct, g5, g6⟩ := resV1_ok hT r he ht
      refine ⟨_, .tuple #[cv, cu, ct], by simp [g1, g3, g5], hk, .tup _ _ _ rfl (fun j hj => ?_)⟩
      match j, hj with
      | 0, _ => exact g2
      | 1, _ => exact g4
      | 2, _ => exact g6
    · cases hk
  · cases hk

theorem Sem.of_body {P : Program} {T : Nat → Option TI} (hT : TOk P T) {g : FuncId} {fn : Func} {c : Code} {args : List V} {h : Heap} {K : V → Heap → Prop} (hf : P.funcs[g]? = some fn) (hb : fn.body = some c) (hn : (fn.name == "runtime.NumGoroutine") = false)
    (hk : bodyP P T fn c args h K) : Sem P g args h K := by
  refine ⟨⟨fn, hf, by rw [hb]; rfl, hn⟩, fun φ μ B w cargs hB r ha => ?_⟩
  unfold bodyP at hk
  rw [forceL_eq] at hk
  refine calls_of_wp hf hb ?_
  have he : EnvR φ μ (args ++ List.replicate (fn.ntmps - args.length) .undef) (cargs ++ Array.replicate (fn.ntmps - cargs.size) Go.undef) := by
    refine ⟨by simp [ha.1], fun j => ?_⟩
    have l1 := ha.1
    by_cases hj : j < args.length
    · have e1 : (args ++ List.replicate (fn.ntmps - args.length) V.undef).getD j V.undef = args.getD j V.undef := by
        rw [List.getD_eq_getElem?_getD, List.getElem?_append_left hj, ← List.getD_eq_getElem?_getD]
      have e2 : (cargs ++ Array.replicate (fn.ntmps - cargs.size) Go.undef).getD j Go.undef = cargs.getD j Go.undef := by
        have : j < cargs.size := by omega
        simp [Array.getD_eq_getD_getElem?, Array.getElem?_append, this]
      rw [e1, e2]; exact ha.2 j
    · have e1 : (args ++ List.replicate (fn.ntmps - args.length) V.undef).getD j .undef = .undef := by
        rw [List.getD_eq_getElem?_getD, List.getElem?_append_right (Nat.le_of_not_lt hj)]
        simp only [List.getElem?_replicate]
        split <;> rfl
      rw [e1]; exact .undef _ _
  refine wp_mono (wpC_ok hT c _ h _ φ μ B w _ hB r he hk) ?_
  rintro e a' w' ⟨x, env', h', φ', μ', rfl, hq, he', r', hx, hf', hd⟩
  have fin : retP T fn.results.toList env' h' K → a'.defers = [] ∧ ∃ v, (results fn a'.tmps).run P w' = .ok v w' ∧ ∃ v' h' φ' μ' cv, (Ending.returned v) = .returned cv ∧ K v' h' ∧ Rv φ' μ' v' cv ∧ Rel φ' μ' B h' w' ∧ Ext φ μ w φ' μ' ∧ Fr μ w w' := fun hr => by
    obtain ⟨v, cv, g1, g2, g3⟩ := retP_ok hT r' he' hr
    exact ⟨hd, cv, g1, v, h', φ', μ', cv, rfl, g2, g3, r', hx, hf'⟩
  cases x with
  | normal => exact fin hq
  | exit id => cases hq
  | ret => exact fin hq

end Go.Cv
