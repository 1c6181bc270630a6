/- A calculus for calls of the program: canonical values and heaps, and what each operation, loop and call does to them; no condition on the program. -/
import Derived.Test.YtphpngpfllealaaCv15
namespace Go.Cv
open Go.RowKit

def gE (all : List Oper) (env : List V) (g : Option (Nat × Bool)) (run skip : Unit → R) : R :=
  match g with
  | none => run ()
  | some (j, want) =>
    match all[j]? with
    | some oj =>
      (match oj.dst with
      | some d => (match env.getD d .undef with
        | .bool b => cond b (cond want (run ()) (skip ())) (cond want (skip ()) (run ()))
        | .tup [] => skip ()
        | _ => none)
      | none => none)
    | none => none

def setF (env : List V) (d : Option Tmp) (v : V) (k : List V → R) : R := forceL (putE env d v) k

def stepE (call : CallE) (T : Nat → Option TI) (all : List Oper) (o : Oper) (env : List V) (h : Heap) (J : List V → Heap → R) : R :=
  gE all env o.guard
    (fun _ => opE call T (evE env) h (fun v h' => v.force fun v => setF env o.dst v fun env' => J env' h') o.op)
    (fun _ => setF env o.dst (.tup []) fun env' => J env' h)

noncomputable def regE (call : CallE) (T : Nat → Option TI) (all l : List Oper) : List V → Heap → (List V → Heap → R) → R :=
  List.rec (motive := fun _ => List V → Heap → (List V → Heap → R) → R) (fun env h K => K env h) (fun o _ ih env h K => stepE call T all o env h fun env' h' => ih env' h' K) l
theorem regE_cons {call : CallE} {T : Nat → Option TI} {all : List Oper} {o : Oper} {rest : List Oper} {env : List V} {h : Heap} {K : List V → Heap → R} : regE call T all (o :: rest) env h K = stepE call T all o env h fun env' h' => regE call T all rest env' h' K := rfl

theorem gE_ok {all : List Oper} {env : List V} {g : Option (Nat × Bool)} {run skip : Unit → R} {A B : List V → Prop} {r : X × List V × Heap} (hk : gE all env g run skip = some r) (ha : run () = some r → A env) (hb : skip () = some r → B env) : guardN all env g A B := by
  unfold gE at hk
  unfold guardN
  split at hk
  · exact ha hk
  · split at hk
    · split at hk
      · split at hk
        · rename_i j want _ oj hoj _ d hd _ b hb1
          simp only [hoj, hd]
          rw [hb1]
          simp only [forceL_eq]
          cases b <;> cases want
          · exact .no rfl (by rw [set_same hb1]; exact ha hk)
          · exact .no rfl (by rw [set_same hb1]; exact hb hk)
          · exact .yes rfl (by rw [set_same hb1]; exact hb hk)
          · exact .yes rfl (by rw [set_same hb1]; exact ha hk)
        · rename_i j want _ oj hoj _ d hd _ hb1
          simp only [hoj, hd]
          rw [hb1]
          exact hb hk
        · cases hk
      · cases hk
    · cases hk

section
variable {P : Program} {T : Nat → Option TI} {call : CallE} (hcall : ∀ g args h K r, call g args h K = some r → Sem P g args h fun v h' => K v h' = some r)
include hcall

theorem stepE_ok {all : List Oper} {o : Oper} {env : List V} {h : Heap} {J : List V → Heap → R} {J' : List V → Heap → Prop} {r : X × List V × Heap} (hJ : ∀ e h, J e h = some r → J' e h) (hk : stepE call T all o env h J = some r) : stepP P T all o env h J' := by
  unfold stepE at hk
  unfold stepP
  refine gE_ok hk (fun hk => ?_) (fun hk => ?_)
  · refine opP_mono (fun v h' hv => ?_) _ (opE_ok hcall _ hk)
    simp only [V.force_eq, setF, forceL_eq, forceH_eq] at hv ⊢
    exact hJ _ _ hv
  · simp only [setF, forceL_eq] at hk ⊢
    exact hJ _ _ hk

theorem regE_ok {all : List Oper} {r : X × List V × Heap} : ∀ (l : List Oper) (env : List V) (h : Heap) (K : List V → Heap → R), regE call T all l env h K = some r → regP P T all l env h fun e h => K e h = some r
  | [], env, h, K, hk => hk
  | o :: rest, env, h, K, hk => by
    rw [regE_cons] at hk
    rw [regP_cons]
    exact stepE_ok hcall (fun e h => regE_ok rest e h K) hk
end

/-! ### Regions that draw -/
def opD (call : CallE) (T : Nat → Option TI) (ev : Operand → V) (h : Heap) (nid : Nat) (K : V → List (Nat × Blk) → List Nat → R) : Op → R
  | .alloc t =>
    (match T t with
    | some ti => (match cellsOf ti.zero with | some cs => forceL cs fun cs => K (.ptr nid 0) [(nid, .cells cs)] [nid] | none => none)
    | none => none)
  | .box _ x => (match cellsOf (ev x) with | some cs => forceL cs fun cs => K (.ptr nid 0) [(nid, .cells cs)] [nid] | none => none)
  | .load t x =>
    (match ev x with
    | .ptr i q => (match hget h i with | some (.cells cs) => (match loadV T t cs q with | some v => K v [] [i] | none => none) | _ => none)
    | .iptr cs => (match loadV T t cs 0 with | some v => K v [] [] | none => none)
    | _ => none)
  | .store t x y =>
    (match ev x with
    | .ptr i q =>
      (match hget h i, T t, cellsOf (ev y) with
      | some (.cells cs), some ti, some vs =>
        cond (allOne vs && vs.length == ti.size && Nat.ble (q + vs.length) cs.length) (forceL (setL cs q vs) fun cs' => K .undef [(i, .cells cs')] [i]) none
      | _, _, _ => none)
    | _ => none)
  | .call c =>
    (match c.callee with
    | .builtin .append => none
    | .value f => (match ev f with
      | .fn (.func g) first caps => fl2 (first ++ (c.args.toList.map ev) ++ caps) fun args =>
        (match call g args [] (fun v h => some (.ret, [v], h)) with
        | some (_, [v], _) => cond (allFree args && v.free) (K v [] []) none
        | _ => none)
      | _ => none)
    | .builtin b => (match builtinV T b c.argTypes.toList (c.args.toList.map ev) with | some v => K v [] [] | none => none)
    | .invoke .. => none)
  | .buildSlice t n parts => buildSliceE T t n (parts.toList.map fun p => (p.1, ev p.2)) [] fun v _ => cond (isPsl v) (K v [] []) none
  | op => opE (fun _ _ _ _ => none) T ev [] (fun v _ => K v [] []) op

theorem buildSlice_K {T : Nat → Option TI} {t n : Nat} {ps : List (Nat × V)} {h : Heap} {K : V → Heap → Prop} {K' : V → Heap → Prop} (hk : buildSliceP T t n ps h K) (hK : ∀ v h, K v h → K' v h) : buildSliceP T t n ps h K' := buildSliceP_mono hK hk

section
variable {P : Program} {T : Nat → Option TI} {call : CallE} (hcall : ∀ g args h K r, call g args h K = some r → Sem P g args h fun v h' => K v h' = some r)
include hcall

theorem opD_ok {ev : Operand → V} {h : Heap} {nid : Nat} {K : V → List (Nat × Blk) → List Nat → R} {K' : V → List (Nat × Blk) → List Nat → Prop} {r : X × List V × Heap} (hK : ∀ v wr acc, K v wr acc = some r → K' v wr acc) (op : Op)
    (hk : opD call T ev h nid K op = some r) : opQ P T ev h nid K' op := by
  have rest : ∀ op, opE (fun _ _ _ _ => none) T ev [] (fun v _ => K v [] []) op = some r → opP P T ev [] (fun v _ => K' v [] []) op := fun op hk =>
    opP_mono (fun v h' hv => hK _ _ _ hv) op (opE_ok (P := P) (call := fun _ _ _ _ => none) (fun _ _ _ _ _ h => by cases h) op hk)
  cases op <;> simp only [opD] at hk <;> simp only [opQ]
  case alloc =>
    split at hk
    · split at hk
      · rw [forceL_eq] at hk
        have := hK _ _ _ hk
        simp only [*]
      · cases hk
    · cases hk
  case box =>
    split at hk
    · rw [forceL_eq] at hk
      have := hK _ _ _ hk
      simp only [*]
    · cases hk
  case load =>
    split at hk
    · split at hk
      · split at hk
        · have := hK _ _ _ hk
          simp only [*]
        · cases hk
      · cases hk
    · split at hk
      · have := hK _ _ _ hk
        simp only [*]
      · cases hk
    · cases hk
  case store =>
    split at hk
    · split at hk
      · obtain ⟨h1, h2⟩ := gd_some hk
        rw [forceL_eq] at h2
        rename_i h3 _ _ _ _ _ _ h4 h5 h6
        simp only [h3, h4, h5, h6]
        exact gdP h1 (hK _ _ _ h2)
      · cases hk
    · cases hk
  case buildSlice =>
    refine buildSliceP_mono (fun v h' hv => ?_) (buildSliceE_ok hk)
    obtain ⟨h1, h2⟩ := gd_some hv
    exact gdP h1 (hK _ _ _ h2)
  case call =>
    split at hk
    · cases hk
    · split at hk
      · rename_i h1 _ _ _ _ h2
        simp only [h1, h2]
        rw [fl2_eq] at hk ⊢
        split at hk
        · rename_i h3
          obtain ⟨h4, h5⟩ := gd_some hk
          simp only [Bool.and_eq_true] at h4
          refine ⟨_, ⟨h4.1, h4.2, (hcall _ _ _ _ _ h3).mono fun v' h' e => ?_⟩, hK _ _ _ h5⟩
          simp only [Option.some.injEq, Prod.mk.injEq, List.cons.injEq] at e
          exact e.2.1.1
        · cases hk
      · cases hk
    · split at hk
      · have := hK _ _ _ hk
        rename_i h0 h1 _ _ h2
        simp only [h1, h2]
        exact this
      · cases hk
    · cases hk
  all_goals exact rest _ hk

def stepDE (call : CallE) (T : Nat → Option TI) (all : List Oper) (o : Oper) (nid : Nat) (env : List V) (h : Heap) (trs : List Tr) (J : List V → Heap → List Tr → R) : R :=
  gE all env o.guard
    (fun _ => opD call T (evE env) h nid (fun v wr acc => v.force fun v => forceW wr fun wr => setF env o.dst v fun env' => forceL (applyW h wr) fun h' => J env' h' (⟨v, wr, acc⟩ :: trs)) o.op)
    (fun _ => setF env o.dst (.tup []) fun env' => J env' h (⟨.tup [], [], []⟩ :: trs))

noncomputable def drawE (call : CallE) (T : Nat → Option TI) (all l : List Oper) : Nat → List V → Heap → List Tr → (List Tr → List V → Heap → R) → R :=
  List.rec (motive := fun _ => Nat → List V → Heap → List Tr → (List Tr → List V → Heap → R) → R) (fun _ env h trs K => K trs env h)
    (fun o _ ih nid env h trs K => stepDE call T all o nid env h trs fun env' h' trs' => natL (nid + 1) fun nid' => ih nid' env' h' trs' K) l

noncomputable def drawPE (call : CallE) (T : Nat → Option TI) (ops : List Oper) (env : List V) (h : Heap) (K : List V → Heap → R) : R :=
  natL h.length fun n0 => forceL (h ++ List.replicate ops.length none) fun hp => drawE call T ops ops n0 env hp [] fun trs env' h' => cond (drawChk ops trs.reverse) (forceL (trimAt n0 h') fun h' => K env' h') none

theorem stepDE_ok {all : List Oper} {o : Oper} {nid : Nat} {env : List V} {h : Heap} {trs : List Tr} {J : List V → Heap → List Tr → R} {J' : List V → Heap → List Tr → Prop} {r : X × List V × Heap} (hJ : ∀ e h t, J e h t = some r → J' e h t)
    (hk : stepDE call T all o nid env h trs J = some r) : stepD P T all o nid env h trs J' := by
  unfold stepDE at hk
  unfold stepD
  refine gE_ok hk (fun hk => ?_) (fun hk => ?_)
  · refine opD_ok hcall (fun v wr acc hv => ?_) _ hk
    simp only [V.force_eq, setF, forceL_eq, forceH_eq, forceW_eq] at hv ⊢
    exact hJ _ _ _ hv
  · simp only [setF, forceL_eq] at hk ⊢
    exact hJ _ _ _ hk

theorem drawE_ok {all : List Oper} {r : X × List V × Heap} : ∀ (l : List Oper) (nid : Nat) (env : List V) (h : Heap) (trs : List Tr) (K : List Tr → List V → Heap → R) (K' : List Tr → List V → Heap → Prop), (∀ t e h, K t e h = some r → K' t e h) →
    drawE call T all l nid env h trs K = some r → drawRun P T all l nid env h trs K'
  | [], nid, env, h, trs, K, K', hK, hk => hK _ _ _ hk
  | o :: rest, nid, env, h, trs, K, K', hK, hk => by
    replace hk : (stepDE call T all o nid env h trs fun env' h' trs' => natL (nid + 1) fun nid' => drawE call T all rest nid' env' h' trs' K) = some r := hk
    rw [drawRun_cons]
    refine stepDE_ok hcall (fun e h t hj => ?_) hk
    rw [natL_eq] at hj
    exact drawE_ok rest _ _ _ _ K K' hK hj

theorem drawPE_ok {ops : List Oper} {env : List V} {h : Heap} {K : List V → Heap → R} {r : X × List V × Heap} (hk : drawPE call T ops env h K = some r) : drawP P T ops env h fun e h => K e h = some r := by
  unfold drawPE at hk
  unfold drawP
  simp only [natL_eq, forceL_eq, forceH_eq] at hk ⊢
  refine drawE_ok hcall ops _ _ _ _ _ _ (fun t e h hj => ?_) hk
  obtain ⟨h1, h2⟩ := gd_some hj
  exact ⟨h1, h2⟩
end

/-! ### Code -/
abbrev WE := List V → Heap → (X → List V → Heap → R) → R
noncomputable def wpE (call : CallE) (T : Nat → Option TI) (fuel : Nat) (c : Code) : WE :=
  Code.rec (motive := fun _ => WE) (fun env h Q => Q .normal env h)
    (fun _ ops draw env h Q => forceL ops.toList fun l => cond draw (drawPE call T l env h (Q .normal)) (regE call T l l env h (Q .normal)))
    (fun _ _ a b env h Q => a env h fun x env h => match x with | .normal => b env h Q | x => Q x env h)
    (fun c _ _ a b env h Q => match evE env c with | .bool t => cond t (a env h Q) (b env h Q) | _ => none)
    (fun id _ a env h Q => a env h fun x env h => match x with | .exit i => cond (i == id) (Q .normal env h) (Q (.exit i) env h) | x => Q x env h)
    (fun _ a env h Q => Nat.rec (motive := fun _ => List V → Heap → R) (fun _ _ => none) (fun _ ih env h => a env h fun x env h => match x with | .normal => ih env h | x => Q x env h) fuel env h)
    (fun _ _ _ _ _ _ _ _ _ => none) (fun id env h Q => Q (.exit id) env h) (fun _ _ _ _ _ => none) (fun _ _ _ _ => none) (fun _ _ _ _ => none)
    (fun env h Q => Q .ret env h) (fun _ _ _ _ => none) c

def retE (T : Nat → Option TI) (rs : List ResultVar) (env : List V) (h : Heap) (K : V → Heap → R) : R :=
  match rs with
  | [r] => (match resV1 T env h r with | some v => v.force fun v => K v h | none => none)
  | [] => K (.tup []) h
  | [r, s] => (match resV1 T env h r, resV1 T env h s with | some v, some u => v.force fun v => u.force fun u => K (.tup [v, u]) h | _, _ => none)
  | [r, s, t] => (match resV1 T env h r, resV1 T env h s, resV1 T env h t with | some v, some u, some x => v.force fun v => u.force fun u => x.force fun x => K (.tup [v, u, x]) h | _, _, _ => none)
  | _ => none

noncomputable def callF (P : Program) (T : Nat → Option TI) (fuel : Nat) (n : Nat) : CallE :=
  Nat.rec (motive := fun _ => CallE) (fun _ _ _ _ => none)
    (fun _ ih g args h K => match P.funcs[g]? with
      | some fn => (match fn.body with
        | some c => forceL (args ++ List.replicate (fn.ntmps - args.length) .undef) fun env => wpE ih T fuel c env h fun x env' h' => match x with | .exit _ => none | _ => retE T fn.results.toList env' h' K
        | none => none)
      | none => none) n

section
variable {P : Program} {T : Nat → Option TI} (hT : TOk P T) (hm : P.follows .mixedOrders = true) {call : CallE} (hcall : ∀ g args h K r, call g args h K = some r → Sem P g args h fun v h' => K v h' = some r)
include hT hm hcall

theorem wpE_ok {fuel : Nat} {r : X × List V × Heap} (c : Code) : ∀ (env : List V) (h : Heap) (Q : X → List V → Heap → R), wpE call T fuel c env h Q = some r → wpC P T c env h fun x e h => Q x e h = some r := by
  induction c with
  | skip => intro env h Q hk; exact hk
  | region id ops draw =>
    intro env h Q hk
    replace hk : (forceL ops.toList fun l => cond draw (drawPE call T l env h (Q .normal)) (regE call T l l env h (Q .normal))) = some r := hk
    show forceL ops.toList fun l => cond draw (DrawP P T l env h fun e h => Q .normal e h = some r) (regP P T l l env h fun e h => Q .normal e h = some r)
    rw [forceL_eq] at hk ⊢
    cases draw with
    | true => exact DrawP.intro hT hm (drawPE_ok hcall hk)
    | false => exact regE_ok hcall _ _ _ _ hk
  | seq x y ihx ihy =>
    intro env h Q hk
    refine wpC_mono x _ _ _ _ (fun z e h hq => ?_) (ihx env h _ hk)
    cases z with
    | normal => exact ihy e h Q hq
    | exit id => exact hq
    | ret => exact hq
  | cond c x y ihx ihy =>
    intro env h Q hk
    replace hk : (match evE env c with | .bool t => cond t (wpE call T fuel x env h Q) (wpE call T fuel y env h Q) | _ => none) = some r := hk
    show (match evE env c with | .bool t => BCase t (wpC P T x env h fun x e h => Q x e h = some r) (wpC P T y env h fun x e h => Q x e h = some r) | _ => False)
    split at hk
    · rename_i t ht
      cases t
      · exact .no rfl (ihy env h Q hk)
      · exact .yes rfl (ihx env h Q hk)
    · cases hk
  | block id c ih =>
    intro env h Q hk
    refine wpC_mono c _ _ _ _ (fun z e h hq => ?_) (ih env h _ hk)
    cases z with
    | normal => exact hq
    | exit i =>
      simp only at hq ⊢
      cases hi : (i == id) with
      | true => rw [hi] at hq; exact hq
      | false => rw [hi] at hq; exact hq
    | ret => exact hq
  | loop c ih =>
    intro env h Q hk
    show LoopP P T c (wpC P T c) h.length env h fun x e h => Q x e h = some r
    have key : ∀ (n m0 : Nat) (env : List V) (h : Heap), (Nat.rec (motive := fun _ => List V → Heap → R) (fun _ _ => none) (fun _ ih env h => wpE call T fuel c env h fun x env h => match x with | .normal => ih env h | x => Q x env h) n env h) = some r →
        LoopP P T c (wpC P T c) m0 env h fun x e h => Q x e h = some r := by
      intro n
      induction n with
      | zero => intro m0 env h hk; cases hk
      | succ n ihn =>
        intro m0 env h hk
        refine LoopP.unroll (wpC_mono c _ _ _ _ (fun z e h hq => ?_) (ih env h _ hk))
        cases z with
        | normal => exact ihn m0 e h hq
        | exit id => exact hq
        | ret => exact hq
    exact key fuel _ env h hk
  | exit id => intro env h Q hk; exact hk
  | ret => intro env h Q hk; exact hk
  | rangeFunc => intro env h Q hk; cases hk
  | scope => intro env h Q hk; cases hk
  | label => intro env h Q hk; cases hk
  | goto => intro env h Q hk; cases hk
  | refuse => intro env h Q hk; cases hk
end

theorem retE_ok {T : Nat → Option TI} {rs : List ResultVar} {env : List V} {h : Heap} {K : V → Heap → R} {r : X × List V × Heap} (hk : retE T rs env h K = some r) : retP T rs env h fun v h => K v h = some r := by
  unfold retE at hk
  unfold retP
  split at hk
  · split at hk
    · simp only [V.force_eq] at hk
      simp only [*, V.force_eq]
    · cases hk
  · exact hk
  · split at hk
    · simp only [V.force_eq] at hk
      simp only [*, V.force_eq]
    · cases hk
  · split at hk
    · simp only [V.force_eq] at hk
      simp only [*, V.force_eq]
    · cases hk
  · cases hk

def namesB (P : Program) : Bool := P.funcs.all fun fn => !(fn.name == "runtime.NumGoroutine")

theorem callF_ok {P : Program} {T : Nat → Option TI} (hT : TOk P T) (hm : P.follows .mixedOrders = true) (hn : namesB P = true) {fuel : Nat} : ∀ (n : Nat) (g : FuncId) (args : List V) (h : Heap) (K : V → Heap → R) (r : X × List V × Heap),
    callF P T fuel n g args h K = some r → Sem P g args h fun v h' => K v h' = some r := by
  intro n
  induction n with
  | zero => intro g args h K r hk; cases hk
  | succ n ih =>
    intro g args h K r hk
    replace hk : (match P.funcs[g]? with
      | some fn => (match fn.body with
        | some c => forceL (args ++ List.replicate (fn.ntmps - args.length) .undef) fun env => wpE (callF P T fuel n) T fuel c env h fun x env' h' => match x with | .exit _ => none | _ => retE T fn.results.toList env' h' K
        | none => none)
      | none => none) = some r := hk
    split at hk
    · rename_i fn hf
      split at hk
      · rename_i c hc
        rw [forceL_eq] at hk
        have hnm : (fn.name == "runtime.NumGoroutine") = false := by
          simp only [namesB, Array.all_eq_true_iff_forall_mem] at hn
          simpa using hn fn (Array.mem_of_getElem? hf)
        refine Sem.of_body hT hf hc hnm ?_
        unfold bodyP
        rw [forceL_eq]
        refine wpC_mono c _ _ _ _ (fun x e h hq => ?_) (wpE_ok hT hm ih c _ _ _ hk)
        cases x with
        | normal => exact retE_ok hq
        | exit id => cases hq
        | ret => exact retE_ok hq
      · cases hk
    · cases hk

/-- A call that is run. -/
noncomputable def runF (P : Program) (T : Nat → Option TI) (fuel n : Nat) (g : FuncId) (args : List V) (h : Heap) : R := callF P T fuel n g args h fun v h => some (.ret, [v], h)

theorem Sem.of_run {P : Program} {T : Nat → Option TI} (hT : TOk P T) (hm : P.follows .mixedOrders = true) (hn : namesB P = true) (fuel n : Nat) {g : FuncId} {args : List V} {h h' : Heap} {v : V} {K : V → Heap → Prop} (hk : runF P T fuel n g args h = some (.ret, [v], h')) (hK : K v h') : Sem P g args h K :=
  (callF_ok hT hm hn n g args h _ _ hk).mono fun v' h'' e => by
    simp only [Option.some.injEq, Prod.mk.injEq, List.cons.injEq] at e
    obtain ⟨_, ⟨rfl, _⟩, rfl⟩ := e
    exact hK

/-- Its value alone. -/
noncomputable def valF (P : Program) (T : Nat → Option TI) (fuel n : Nat) (g : FuncId) (args : List V) : Option V :=
  match runF P T fuel n g args [] with
  | some (_, [v], _) => some v
  | _ => none

theorem Fn.of_run {P : Program} {T : Nat → Option TI} (hT : TOk P T) (hm : P.follows .mixedOrders = true) (hn : namesB P = true) (fuel n : Nat) {g : FuncId} {args : List V} {v : V} (ha : allFree args = true) (hv : v.free = true) (hk : valF P T fuel n g args = some v) : Fn P g args v := by
  refine ⟨ha, hv, ?_⟩
  unfold valF at hk
  split at hk
  · rename_i h3
    simp only [Option.some.injEq] at hk
    subst hk
    refine (callF_ok hT hm hn n g args [] _ _ h3).mono fun v' h' e => ?_
    simp only [Option.some.injEq, Prod.mk.injEq, List.cons.injEq] at e
    exact e.2.1.1
  · cases hk

/-- A part of a body that is run. -/
theorem wpC.of_run {P : Program} {T : Nat → Option TI} (hT : TOk P T) (hm : P.follows .mixedOrders = true) (hn : namesB P = true) (fuel n : Nat) {c : Code} {env env' : List V} {h h' : Heap} {x : X} {Q : X → List V → Heap → Prop}
    (hk : wpE (callF P T fuel n) T fuel c env h (fun x e h => some (x, e, h)) = some (x, env', h')) (hQ : Q x env' h') : wpC P T c env h Q :=
  wpC_mono c _ _ _ _ (fun x e h hq => by simp only [Option.some.injEq, Prod.mk.injEq] at hq; obtain ⟨rfl, rfl, rfl⟩ := hq; exact hQ) (wpE_ok hT hm (callF_ok hT hm hn n) c env h _ hk)
end Go.Cv
