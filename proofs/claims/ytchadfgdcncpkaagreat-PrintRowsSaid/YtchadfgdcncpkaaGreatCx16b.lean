/- A calculus for calls of the program: canonical values and heaps, and what each operation, loop and call does to them; no condition on the program. -/
import Derived.Test.YtchadfgdcncpkaaGreatCx16
namespace Go.Cx
open Go.RowKit

theorem RoundP.fr {P : Program} {id : Nat} {args : List V} {h : Heap} {K : V → Heap → Prop} (k : RoundP P id args h K) : FrP (RoundR P) (.yld id :: args) h K := by
  refine ⟨fun φ μ B w cargs hB r ha => ?_⟩
  obtain ⟨hl, hv⟩ := ha
  have h0 := hv 0
  simp only [List.getD_cons_zero] at h0
  match hc : cargs.toList with
  | [] =>
    have : cargs.size = 0 := by rw [← Array.length_toList, hc]; rfl
    simp at hl; omega
  | c :: cs =>
    have hca : cargs = #[c] ++ cs.toArray := by rw [← Array.toArray_toList (xs := cargs), hc]; simp
    subst hca
    have hc0 : (#[c] ++ cs.toArray).getD 0 Go.undef = c := by simp
    rw [hc0] at h0
    cases h0 with
    | yld _ _ b hb =>
      obtain ⟨f, tmps, as, bo, h1, h2⟩ := k.run φ μ B w cs.toArray b hB r ⟨by simp at hl ⊢; omega, fun j => by
        have := hv (j + 1)
        simpa [Array.getD_eq_getD_getElem?, Array.getElem?_append] using this⟩ hb
      exact ⟨b, cs.toArray, rfl, f, tmps, as, bo, h1, h2⟩

theorem Sem.fr {P : Program} {g : FuncId} {args : List V} {h : Heap} {K : V → Heap → Prop} (k : Sem P g args h K) : FrP (CallR P g) args h K := ⟨fun φ μ B w cargs hB r ha => k.run φ μ B w cargs hB r ha⟩

/-! ### Regions that draw -/
def forceWr {β : Type} (o : Bool) : List (Nat × Blk) → (List (Nat × Blk) → β) → β
  | [], k => k []
  | x :: xs, k => forceN x.1 fun i => x.2.fo o fun b => forceWr o xs fun ys => k ((i, b) :: ys)
theorem forceWr_eq {β : Type} (o : Bool) : ∀ (l : List (Nat × Blk)) (k : List (Nat × Blk) → β), forceWr o l k = k l
  | [], _ => rfl
  | x :: xs, k => by rw [forceWr, forceN_eq, Blk.fo_eq, forceWr_eq o xs]

noncomputable def opNDE (P : Program) (T : Nat → Option TI) (md : Bool) (e : Ea) (H : Hp) (K : Tr → R) (op : Op) : R :=
  match opF P T md (evT e) (H.t.get none) H.n op with
  | some o => cond o.c (o.v.fo (oldOp op) fun v => forceWr (oldOp op) o.wr fun wr => forceL o.acc fun acc => forceN o.nw fun nw => K ⟨v, wr, acc, nw, none⟩) none
  | none => none
theorem opNDE_ok {P : Program} {T : Nat → Option TI} {md : Bool} {l : List V} {e : Ea} {h : Heap} {H : Hp} (he : ER l e) (hh : HR h H) {K : Tr → R} {r : Res} {op : Op} (hk : opNDE P T md e H K op = some r) : opDN P T md (evE l) h (fun t => K t = some r) op := by
  unfold opNDE at hk
  unfold opDN
  rw [natL_eq]
  rw [he.ev, hh.hget, ← hh.1] at hk
  split at hk
  · rename_i o ho
    obtain ⟨h1, h2⟩ := gd_some hk
    simp only [V.fo_eq, forceWr_eq, forceL_eq, forceN_eq] at h2
    simp only [ho]
    rw [h1]
    exact h2
  · cases hk

noncomputable def insE (T : Nat → Option TI) (e : Ea) (H : Hp) (mt : Nat) (m k v : Operand) (K : Tr → R) : R :=
  match T mt, evT e m with
  | some ti, .map id =>
    (match ti.k, H.t.get none id with
    | .map kt _, some (.mapc es _) => cond (keyOk T kt (evT e k)) (match hitsV T kt (evT e k) es with | some [] => (evT e k).m1 fun k => (evT e v).m1 fun v => K ⟨.undef, [], [], 0, some (id, kt, k, v)⟩ | _ => none) none
    | _, _ => none)
  | _, _ => none
theorem insE_ok {T : Nat → Option TI} {l : List V} {e : Ea} {h : Heap} {H : Hp} (he : ER l e) (hh : HR h H) {mt : Nat} {m k v : Operand} {K : Tr → R} {r : Res} (hk : insE T e H mt m k v K = some r) : insD T (evE l) h mt m k v fun t => K t = some r := by
  unfold insE at hk
  unfold insD
  rw [he.ev, hh.hget] at hk
  split at hk
  · rename_i h1 h2
    simp only [h1, h2]
    split at hk
    · rename_i h3 h4
      simp only [h3, h4]
      obtain ⟨h5, hk⟩ := gd_some hk
      refine gdP h5 ?_
      split at hk
      · rename_i h6
        simp only [h6]
        simp only [V.m1_eq] at hk
        simp only [V.force_eq]
        exact hk
      · cases hk
    · cases hk
  · cases hk

noncomputable def opDE (call : CallE) (rnd : RoundE) (P : Program) (T : Nat → Option TI) (md : Bool) (e : Ea) (H : Hp) (K : Tr → R) (op : Op) : R :=
  match op with
  | .call c =>
    (match c.callee with
    | .value f => (match evT e f with
      | .fn (.func g) first caps => fl2 (first ++ (c.args.toList.map (evT e)) ++ caps) fun args => callDE (call g args) args H K
      | .yld id => fl2 (c.args.toList.map (evT e)) fun args => callDE (rnd id args) (.yld id :: args) H K
      | _ => none)
    | .invoke _ _ => none
    | .builtin _ => opNDE P T md e H K (.call c))
  | .indexAddr t x i => (match evT e x, evT e i with
    | .psl sz xs _, .int _ n => cond (decide (0 ≤ n)) (match xs[n.toNat]? with | some cs => cond (idxOk T t sz) (forceL cs fun cs => K ⟨.iptr cs, [], [], 0, none⟩) none | none => none) none
    | _, _ => opNDE P T md e H K (.indexAddr t x i))
  | .insert mt m k v => insE T e H mt m k v K
  | op => opNDE P T md e H K op

theorem opDE_ok {P : Program} {T : Nat → Option TI} {md : Bool} {call : CallE} {rnd : RoundE} (hcall : CallOk P call) (hrnd : RoundOk P rnd) {l : List V} {e : Ea} {h : Heap} {H : Hp} (he : ER l e) (hh : HR h H) {K : Tr → R} {r : Res} (op : Op) (hk : opDE call rnd P T md e H K op = some r) :
    opD P T md (evE l) h (fun t => K t = some r) op := by
  cases op
  case call c =>
    obtain ⟨callee, args, ts⟩ := c
    cases callee with
    | value f =>
      simp only [opDE, he.ev] at hk
      simp only [opD]
      split at hk
      · rename_i hv
        rw [hv]
        simp only [fl2_eq] at hk ⊢
        exact callDE_ok (CallR_mono _) (fun hs Hs K r h1 h2 => (hcall _ _ _ _ _ _ h1 h2).fr) hh hk
      · rename_i hv
        rw [hv]
        simp only [fl2_eq] at hk ⊢
        exact callDE_ok RoundR_mono (fun hs Hs K r h1 h2 => (hrnd _ _ _ _ _ _ h1 h2).fr) hh hk
      · cases hk
    | invoke a b => simp only [opDE] at hk; cases hk
    | builtin b =>
      simp only [opDE] at hk
      simp only [opD]
      have h1 := opNDE_ok he hh hk
      cases apG (evE l) { callee := .builtin b, args := args, argTypes := ts } with
      | true => exact opDX_iff.1 h1
      | false => exact h1
  case indexAddr t x i =>
    simp only [opDE, he.ev] at hk
    simp only [opD]
    split at hk
    · rename_i hx hi
      rw [hx, hi]
      obtain ⟨h1, h2⟩ := gd_some hk
      split at h2
      · rename_i cs hcs
        obtain ⟨h3, h4⟩ := gd_some h2
        rw [forceL_eq] at h4
        exact ⟨cs, ⟨of_decide_eq_true h1, hcs⟩, gdP h3 h4⟩
      · cases h2
    · rename_i hno
      split
      · rename_i hx hi
        exact absurd hi (hno _ _ _ _ _ hx)
      · exact opNDE_ok he hh hk
  case insert mt m k v =>
    simp only [opDE] at hk
    simp only [opD]
    exact insE_ok he hh hk
  case lookup t m k ok =>
    simp only [opDE] at hk
    simp only [opD]
    exact opDN_lookup (opNDE_ok he hh hk)
  case load t x =>
    simp only [opDE] at hk
    simp only [opD]
    split
    · rename_i hx
      exact opDN_load hx (opNDE_ok he hh hk)
    · exact opNDE_ok he hh hk
  case slice t x lo hi mx =>
    simp only [opDE] at hk
    simp only [opD]
    have h1 := opNDE_ok he hh hk
    cases slG (evE l x) mx with
    | true => exact opDX_iff.1 h1
    | false => exact h1
  all_goals (simp only [opDE] at hk; simp only [opD]; exact opNDE_ok he hh hk)

noncomputable def wrTE (H : Hp) (t : Tr) : List (Nat × Blk) :=
  match t.ins with
  | none => t.wr
  | some (id, _, k, v) => (match H.t.get none id with | some (.mapc es c) => [(id, .mapc (insK k v es) (c + 1))] | _ => [])
theorem wrTE_eq {h : Heap} {H : Hp} (hh : HR h H) (t : Tr) : wrTE H t = wrT h t := by
  obtain ⟨v, wr, acc, nw, ins⟩ := t
  cases ins with
  | none => rfl
  | some p =>
    obtain ⟨id, kt, k, u⟩ := p
    simp only [wrTE, wrT, hh.hget]
    split <;> simp_all

noncomputable def stepDE (call : CallE) (rnd : RoundE) (P : Program) (T : Nat → Option TI) (md : Bool) (all : List Oper) (o : Oper) (e : Ea) (H : Hp) (trs : List Tr) (J : Ea → Hp → List Tr → R) : R :=
  gE all e o.guard
    (fun _ => opDE call rnd P T md e H (fun t => setE e o.dst t.v fun e' => forceN (Nat.add H.n t.nw) fun n => applyH true (wrTE H t) ⟨H.t, n⟩ fun H' => J e' H' (t :: trs)) o.op)
    (fun _ => setE e o.dst (.tup []) fun e' => J e' H (⟨.tup [], [], [], 0, none⟩ :: trs))

theorem opD_mono {P : Program} {T : Nat → Option TI} {md : Bool} {ev : Operand → V} {h : Heap} {K K' : Tr → Prop} (hK : ∀ t, K t → K' t) (op : Op) (hk : opD P T md ev h K op) : opD P T md ev h K' op := by
  have dn : ∀ op, opDN P T md ev h K op → opDN P T md ev h K' op := fun op hk => by
    unfold opDN at hk ⊢
    rw [natL_eq] at hk ⊢
    split at hk
    · exact cond_mono (hK _) hk
    · exact hk.elim
  cases op
  case call c =>
    simp only [opD] at hk ⊢
    split at hk
    · split at hk
      · simp only [fl2_eq] at hk ⊢
        obtain ⟨t, h1, h2⟩ := hk
        exact ⟨t, h1, hK _ h2⟩
      · simp only [fl2_eq] at hk ⊢
        obtain ⟨t, h1, h2⟩ := hk
        exact ⟨t, h1, hK _ h2⟩
      · exact hk.elim
    · exact hk.elim
    · cases hap : apG ev c with
      | true =>
        rw [hap] at hk
        obtain ⟨v, wr, acc, nw, h1, h2⟩ := hk
        exact ⟨v, wr, acc, nw, h1, hK _ h2⟩
      | false => rw [hap] at hk; exact dn _ hk
  case indexAddr t x i =>
    simp only [opD] at hk ⊢
    split at hk
    · obtain ⟨cs, h1, h2⟩ := hk
      exact ⟨cs, h1, cond_mono (hK _) h2⟩
    · exact dn _ hk
  case lookup t m k ok =>
    simp only [opD] at hk ⊢
    obtain ⟨v, acc, h1, h2⟩ := hk
    exact ⟨v, acc, h1, hK _ h2⟩
  case load t x =>
    simp only [opD] at hk ⊢
    split at hk
    · obtain ⟨v, h1, h2⟩ := hk
      exact ⟨v, h1, hK _ h2⟩
    · exact dn _ hk
  case slice t x lo hi mx =>
    simp only [opD] at hk ⊢
    cases hs : slG (ev x) mx with
    | true =>
      rw [hs] at hk
      obtain ⟨v, wr, acc, nw, h1, h2⟩ := hk
      exact ⟨v, wr, acc, nw, h1, hK _ h2⟩
    | false => rw [hs] at hk; exact dn _ hk
  case insert mt m k v =>
    simp only [opD] at hk ⊢
    unfold insD at hk ⊢
    split at hk
    · split at hk
      · refine cond_mono (fun hk => ?_) hk
        split at hk
        · simp only [V.force_eq] at hk ⊢
          exact hK _ hk
        · exact hk.elim
      · exact hk.elim
    · exact hk.elim
  all_goals (simp only [opD] at hk ⊢; exact dn _ hk)

theorem stepDE_ok {P : Program} {T : Nat → Option TI} {md : Bool} {call : CallE} {rnd : RoundE} (hcall : CallOk P call) (hrnd : RoundOk P rnd) {all : List Oper} {o : Oper} {l : List V} {e : Ea} {h : Heap} {H : Hp} (he : ER l e) (hh : HR h H) {trs : List Tr} {J : Ea → Hp → List Tr → R} {J' : List V → Heap → List Tr → Prop} {r : Res}
    (hJ : ∀ l' h' e' H' t', ER l' e' → HR h' H' → J e' H' t' = some r → J' l' h' t') (hk : stepDE call rnd P T md all o e H trs J = some r) : stepD P T md all o l h trs J' := by
  unfold stepDE at hk
  unfold stepD
  refine gE_ok he hk (fun hk => ?_) (fun hk => ?_)
  · refine opD_mono (fun t hv => ?_) _ (opDE_ok hcall hrnd he hh _ hk)
    obtain ⟨e', h3, h4⟩ := setE_ok he hv
    rw [forceN_eq] at h3
    rw [wrTE_eq hh] at h3
    obtain ⟨H', h5, h6⟩ := applyH_ok (wrT h t) (h ++ List.replicate t.nw none) _ _ (hh.grow t.nw) h3
    simp only [V.force_eq, forceL_eq, forceH_eq, forceW_eq, forceWB_eq]
    exact hJ _ _ _ _ _ h4 h6 h5
  · obtain ⟨e', h3, h4⟩ := setE_ok he hk
    simp only [forceL_eq]
    exact hJ _ _ _ _ _ h4 hh h3

noncomputable def drawE (call : CallE) (rnd : RoundE) (P : Program) (T : Nat → Option TI) (md : Bool) (all : List Oper) : List Oper → Ea → Hp → List Tr → (List Tr → Ea → Hp → R) → R
  | [], e, H, trs, K => K trs e H
  | o :: rest, e, H, trs, K => stepDE call rnd P T md all o e H trs fun e' H' trs' => drawE call rnd P T md all rest e' H' trs' K

theorem drawE_ok {P : Program} {T : Nat → Option TI} {md : Bool} {call : CallE} {rnd : RoundE} (hcall : CallOk P call) (hrnd : RoundOk P rnd) {all : List Oper} {r : Res} {K' : List Tr → List V → Heap → Prop} : ∀ (ops : List Oper) (l : List V) (e : Ea) (h : Heap) (H : Hp) (trs : List Tr) (K : List Tr → Ea → Hp → R), ER l e → HR h H →
    (∀ t l' h' e' H', ER l' e' → HR h' H' → K t e' H' = some r → K' t l' h') → drawE call rnd P T md all ops e H trs K = some r → drawRun P T md all ops l h trs K'
  | [], l, e, h, H, trs, K, he, hh, hK, hk => hK _ _ _ _ _ he hh hk
  | o :: rest, l, e, h, H, trs, K, he, hh, hK, hk => by
    rw [drawE] at hk
    rw [drawRun_cons]
    exact stepDE_ok hcall hrnd he hh (fun l' h' e' H' t' he' hh' hk' => drawE_ok hcall hrnd rest l' e' h' H' t' K he' hh' hK hk') hk

noncomputable def drawPE (call : CallE) (rnd : RoundE) (P : Program) (T : Nat → Option TI) (md : Bool) (ops : List Oper) (e : Ea) (H : Hp) (K : Ea → Hp → R) : R :=
  drawE call rnd P T md ops ops e H [] fun trs e' H' => cond (drawChk T ops trs.reverse) (K e' H') none
theorem drawPE_ok {P : Program} {T : Nat → Option TI} {md : Bool} {call : CallE} {rnd : RoundE} (hcall : CallOk P call) (hrnd : RoundOk P rnd) {ops : List Oper} {l : List V} {e : Ea} {h : Heap} {H : Hp} (he : ER l e) (hh : HR h H) {K : Ea → Hp → R} {r : Res} (hk : drawPE call rnd P T md ops e H K = some r) :
    drawP P T md ops l h fun l' h' => ∃ e' H', ER l' e' ∧ HR h' H' ∧ K e' H' = some r := by
  unfold drawPE at hk
  unfold drawP
  refine drawE_ok hcall hrnd ops l e h H [] _ he hh (fun t l' h' e' H' he' hh' hk' => ?_) hk
  obtain ⟨h1, h2⟩ := gd_some hk'
  exact ⟨h1, e', H', he', hh', h2⟩

/-! ### Code -/
abbrev WE := Ea → Hp → (X → Ea → Hp → R) → R
noncomputable def pendE (Q : X → Ea → Hp → R) (e : Ea) (H : Hp) (pd : Option Code) : R :=
  match pd with
  | none => Q .normal e H
  | some .ret => Q .ret e H
  | some (.exit i) => Q (.exit i) e H
  | _ => none
noncomputable def endFE (e : Ea) (id : Nat) (Q : X → Ea → Hp → R) (H : Hp) : R :=
  match H.t.get none id with
  | some (.loop _ _ _ _ .ready pd) | some (.loop _ _ _ _ .done pd) => H.set none none id fun H' => pendE Q e H' pd
  | _ => none
noncomputable def rangeE (F : Nat → Option Func) (call : CallE) (f : Operand) (ps : Array Tmp) (as bo : Code) (e : Ea) (H : Hp) (Q : X → Ea → Hp → R) : R :=
  match evT e f with
  | .fn (.func g) first caps =>
    (match F g with
    | some fn => (match fn.body with
      | some _ => fl2 (first ++ [.yld H.n] ++ caps) fun args => toL e fun l => forceN (Nat.succ H.n) fun n => (⟨H.t, n⟩ : Hp).set none (some (.loop l ps.toList as bo .ready none)) H.n fun H' => call g args H' fun _ H' => endFE e H.n Q H'
      | none => none)
    | none => none)
  | _ => none
noncomputable def loopE (body : WE) (Q : X → Ea → Hp → R) : Nat → Ea → Hp → R
  | 0, _, _ => none
  | n + 1, e, H => body e H fun x e H => match x with | .normal => loopE body Q n e H | x => Q x e H

noncomputable def wpE (F : Nat → Option Func) (call : CallE) (rnd : RoundE) (P : Program) (T : Nat → Option TI) (md : Nat → Bool) (fuel : Nat) : Code → WE
  | .skip, e, H, Q => Q .normal e H
  | .region id ops draw, e, H, Q => cond draw (drawPE call rnd P T (md id) ops.toList e H (Q .normal)) (regE call rnd P T (md id) ops.toList ops.toList e H (Q .normal))
  | .seq a b, e, H, Q => wpE F call rnd P T md fuel a e H fun x e H => match x with | .normal => wpE F call rnd P T md fuel b e H Q | x => Q x e H
  | .cond c a b, e, H, Q => (match evT e c with | .bool t => cond t (wpE F call rnd P T md fuel a e H Q) (wpE F call rnd P T md fuel b e H Q) | _ => none)
  | .block id a, e, H, Q => wpE F call rnd P T md fuel a e H fun x e H => match x with | .exit i => cond (i == id) (Q .normal e H) (Q (.exit i) e H) | x => Q x e H
  | .loop a, e, H, Q => loopE (wpE F call rnd P T md fuel a) Q fuel e H
  | .rangeFunc f ps as bo, e, H, Q => rangeE F call f ps as bo e H Q
  | .exit id, e, H, Q => Q (.exit id) e H
  | .ret, e, H, Q => Q .ret e H
  | _, _, _, _ => none

noncomputable def resVE (T : Nat → Option TI) (e : Ea) (H : Hp) : ResultVar → Option V
  | .tmp t => some (e.t.get .undef t)
  | .cell x t =>
    match e.t.get .undef x with
    | .ptr i q => (match H.t.get none i with | some (.cells _ cs) => loadV T t cs q | _ => none)
    | _ => none
theorem resVE_eq {T : Nat → Option TI} {l : List V} {e : Ea} {h : Heap} {H : Hp} (he : ER l e) (hh : HR h H) (x : ResultVar) : resVE T e H x = resV1 T l h x := by
  cases x with
  | tmp t => simp only [resVE, resV1, he.2]
  | cell a t =>
    unfold resVE resV1
    simp only [← he.2, hh.hget]
    first | rfl | (split <;> first | rfl | (split <;> first | rfl | simp_all))
noncomputable def retE (T : Nat → Option TI) (rs : List ResultVar) (e : Ea) (H : Hp) (K : V → Hp → R) : R :=
  match rs with
  | [r] => (match resVE T e H r with | some v => v.m1 fun v => K v H | none => none)
  | [] => K (.tup []) H
  | [r, s] => (match resVE T e H r, resVE T e H s with | some v, some u => v.m1 fun v => u.m1 fun u => K (.tup [v, u]) H | _, _ => none)
  | [r, s, t] => (match resVE T e H r, resVE T e H s, resVE T e H t with | some v, some u, some x => v.m1 fun v => u.m1 fun u => x.m1 fun x => K (.tup [v, u, x]) H | _, _, _ => none)
  | _ => none
theorem retE_ok {T : Nat → Option TI} {l : List V} {e : Ea} {h : Heap} {H : Hp} (he : ER l e) (hh : HR h H) {rs : List ResultVar} {K : V → Hp → R} {r : Res} (hk : retE T rs e H K = some r) : retP T rs l h fun v h' => ∃ H', HR h' H' ∧ K v H' = some r := by
  unfold retE at hk
  unfold retP
  split at hk
  · rw [resVE_eq he hh] at hk
    split at hk
    · rename_i hv
      rw [V.m1_eq] at hk
      simp only [hv, V.force_eq]
      exact ⟨H, hh, hk⟩
    · cases hk
  · exact ⟨H, hh, hk⟩
  · simp only [resVE_eq he hh] at hk
    split at hk
    · rename_i hv hu
      simp only [V.m1_eq] at hk
      simp only [hv, hu, V.force_eq]
      exact ⟨H, hh, hk⟩
    · cases hk
  · simp only [resVE_eq he hh] at hk
    split at hk
    · rename_i hv hu ht
      simp only [V.m1_eq] at hk
      simp only [hv, hu, ht, V.force_eq]
      exact ⟨H, hh, hk⟩
    · cases hk
  · cases hk

noncomputable def endRE (id : Nat) (K : V → Hp → R) : X → Ea → Hp → R := fun x _ H =>
  match H.t.get none id with
  | some (.loop l ps as bo _ _) =>
    (match x with
    | .normal => H.set none (some (.loop l ps as bo .ready none)) id fun H' => K (.bool true) H'
    | .ret => H.set none (some (.loop l ps as bo .done (some .ret))) id fun H' => K (.bool false) H'
    | .exit i => H.set none (some (.loop l ps as bo .done (some (.exit i)))) id fun H' => K (.bool false) H')
  | _ => none
noncomputable def midRE (W : Code → WE) (id : Nat) (body : Code) (K : V → Hp → R) : X → Ea → Hp → R := fun x e H =>
  match x with
  | .normal => (match H.t.get none id with
    | some (.loop l ps as bo .ready pd) => H.set none (some (.loop l ps as bo .busy pd)) id fun H' => W body e H' (endRE id K)
    | _ => none)
  | _ => none
noncomputable def rndE (W : Code → WE) : RoundE := fun id args H K =>
  match H.t.get none id with
  | some (.loop l ps as bo _ _) => cond (Nat.beq args.length ps.length) (ofL (putAll l ps args) fun e => W as e H (midRE W id bo K)) none
  | _ => none

/-- Functions that the model does in their place: they hand back what they are given. -/
def NEOk (P : Program) (NE : Nat → Bool) : Prop := ∀ g, NE g = true → ∀ (v : V) (h : Heap) (K : V → Heap → Prop), K v h → Sem P g [v] h K
def noNE : Nat → Bool := fun _ => false
theorem noNE_ok (P : Program) : NEOk P noNE := fun _ h => by cases h

noncomputable def callF (F : Nat → Option Func) (NE : Nat → Bool) (P : Program) (T : Nat → Option TI) (md : Nat → Nat → Bool) (fuel : Nat) : Nat → CallE × RoundE
  | 0 => (fun _ _ _ _ => none, fun _ _ _ _ => none)
  | n + 1 => (fun g args H K => match F g with
      | some fn => (match fn.body with
        | some c => startE args fn.ntmps fun e => wpE F (callF F NE P T md fuel n).1 (callF F NE P T md fuel n).2 P T (md g) fuel c e H fun x e' H' => match x with | .exit _ => none | _ => retE T fn.results.toList e' H' K
        | none => cond (NE g) (match args with | [v] => K v H | _ => none) none)
      | none => none, rndE (wpE F (callF F NE P T md fuel n).1 (callF F NE P T md fuel n).2 P T (md 0) fuel))

def FOk (P : Program) (F : Nat → Option Func) : Prop := ∀ g fn, F g = some fn → P.funcs[g]? = some fn ∧ (fn.name == "runtime.NumGoroutine") = false

theorem HR.push {h : Heap} {H : Hp} (hh : HR h H) {b : Option Blk} {k : Hp → R} {r : Res} (hk : (⟨H.t, Nat.succ H.n⟩ : Hp).set none b H.n k = some r) : ∃ H', k H' = some r ∧ HR (h ++ [b]) H' := by
  have h1 : HR (h ++ List.replicate 1 none) (⟨H.t, Nat.succ H.n⟩ : Hp) := hh.grow 1
  obtain ⟨H', h2, h3⟩ := h1.set hk
  refine ⟨H', h2, ?_⟩
  have : (h ++ List.replicate 1 none).set H.n b = h ++ [b] := by
    rw [← hh.1, List.set_append_right _ _ (Nat.le_refl _), Nat.sub_self]; rfl
  rw [this] at h3
  exact h3

section
variable {P : Program} {T : Nat → Option TI} {F : Nat → Option Func} (hF : FOk P F) (hT : TOk P T) (hm : P.follows .mixedOrders = true) {call : CallE} {rnd : RoundE} (hcall : CallOk P call) (hrnd : RoundOk P rnd)
include hF hT hm hcall hrnd

theorem wpE_ok {md : Nat → Bool} {fuel : Nat} {r : Res} (c : Code) : ∀ (l : List V) (e : Ea) (h : Heap) (H : Hp) (Q : X → Ea → Hp → R), ER l e → HR h H → wpE F call rnd P T md fuel c e H Q = some r → wpC P T md c l h fun x l' h' => ∃ e' H', ER l' e' ∧ HR h' H' ∧ Q x e' H' = some r := by
  induction c with
  | skip => intro l e h H Q he hh hk; exact ⟨e, H, he, hh, hk⟩
  | region id ops draw =>
    intro l e h H Q he hh hk
    simp only [wpE] at hk
    show forceL ops.toList fun ol => cond draw (DrawP P T ol l h fun l' h' => ∃ e' H', ER l' e' ∧ HR h' H' ∧ Q .normal e' H' = some r) (regP P T (md id) ol ol l h fun l' h' => ∃ e' H', ER l' e' ∧ HR h' H' ∧ Q .normal e' H' = some r)
    rw [forceL_eq]
    cases draw with
    | true => exact DrawP.intro hT hm (md id) (drawPE_ok hcall hrnd he hh hk)
    | false => exact regE_ok hcall hrnd _ _ _ _ _ _ he hh hk
  | seq x y ihx ihy =>
    intro l e h H Q he hh hk
    simp only [wpE] at hk
    refine wpC_mono x _ _ _ _ (fun z l1 h1 hq => ?_) (ihx l e h H _ he hh hk)
    obtain ⟨e1, H1, he1, hh1, hq⟩ := hq
    cases z with
    | normal => exact ihy l1 e1 h1 H1 Q he1 hh1 hq
    | exit id => exact ⟨e1, H1, he1, hh1, hq⟩
    | ret => exact ⟨e1, H1, he1, hh1, hq⟩
  | cond c x y ihx ihy =>
    intro l e h H Q he hh hk
    simp only [wpE, he.ev] at hk
    show (match evE l c with | .bool t => BCase t (wpC P T md x l h _) (wpC P T md y l h _) | _ => False)
    split at hk
    · rename_i t ht
      cases t
      · exact .no rfl (ihy l e h H Q he hh hk)
      · exact .yes rfl (ihx l e h H Q he hh hk)
    · cases hk
  | block id c ih =>
    intro l e h H Q he hh hk
    simp only [wpE] at hk
    refine wpC_mono c _ _ _ _ (fun z l1 h1 hq => ?_) (ih l e h H _ he hh hk)
    obtain ⟨e1, H1, he1, hh1, hq⟩ := hq
    cases z with
    | normal => exact ⟨e1, H1, he1, hh1, hq⟩
    | exit i =>
      simp only at hq ⊢
      cases hi : (i == id) with
      | true => rw [hi] at hq; exact ⟨e1, H1, he1, hh1, hq⟩
      | false => rw [hi] at hq; exact ⟨e1, H1, he1, hh1, hq⟩
    | ret => exact ⟨e1, H1, he1, hh1, hq⟩
  | loop c ih =>
    intro l e h H Q he hh hk
    simp only [wpE] at hk
    show LoopP P T c (wpC P T md c) h.length l h _
    have key : ∀ (n m0 : Nat) (l : List V) (e : Ea) (h : Heap) (H : Hp), ER l e → HR h H → loopE (wpE F call rnd P T md fuel c) Q n e H = some r → LoopP P T c (wpC P T md c) m0 l h fun x l' h' => ∃ e' H', ER l' e' ∧ HR h' H' ∧ Q x e' H' = some r := by
      intro n
      induction n with
      | zero => intro m0 l e h H he hh hk; cases hk
      | succ n ihn =>
        intro m0 l e h H he hh hk
        rw [loopE] at hk
        refine LoopP.unroll (wpC_mono c _ _ _ _ (fun z l1 h1 hq => ?_) (ih l e h H _ he hh hk))
        obtain ⟨e1, H1, he1, hh1, hq⟩ := hq
        cases z with
        | normal => exact ihn m0 l1 e1 h1 H1 he1 hh1 hq
        | exit id => exact ⟨e1, H1, he1, hh1, hq⟩
        | ret => exact ⟨e1, H1, he1, hh1, hq⟩
    exact key fuel _ l e h H he hh hk
  | exit id => intro l e h H Q he hh hk; exact ⟨e, H, he, hh, hk⟩
  | ret => intro l e h H Q he hh hk; exact ⟨e, H, he, hh, hk⟩
  | rangeFunc f ps as bo =>
    intro l e h H Q he hh hk
    simp only [wpE] at hk
    unfold rangeE at hk
    rw [he.ev] at hk
    split at hk
    · rename_i g first caps hf
      split at hk
      · rename_i fn hfn
        split at hk
        · rename_i c hc
          obtain ⟨hp, hnm⟩ := hF g fn hfn
          refine RangeP.intro hf (by unfold bodyB; simp [hp, hc, hnm]) ?_
          rw [fl2_eq, toL_ok he, forceN_eq] at hk
          obtain ⟨H1, h1, h2⟩ := hh.push hk
          rw [fl2_eq, forceH_eq, hh.1]
          refine (hcall _ _ _ _ _ _ h2 h1).mono fun _ h' hq => ?_
          obtain ⟨H2, h3, h4⟩ := hq
          have pend : ∀ h' H' pd, HR h' H' → pendE Q e H' pd = some r → pendR (fun x l' h' => ∃ e' H', ER l' e' ∧ HR h' H' ∧ Q x e' H' = some r) l h' pd := fun h' H' pd hH hp => by
            unfold pendE at hp
            unfold pendR
            split at hp
            · exact ⟨e, H', he, hH, hp⟩
            · exact ⟨e, H', he, hH, hp⟩
            · exact ⟨e, H', he, hH, hp⟩
            · cases hp
          unfold endFE at h4
          unfold endF
          rw [h3.hget] at h4
          split at h4
          · rename_i hi
            simp only [hi]
            rw [forceH_eq]
            obtain ⟨H3, k1, k2⟩ := h3.set h4
            exact pend _ _ _ k2 k1
          · rename_i hi
            simp only [hi]
            rw [forceH_eq]
            obtain ⟨H3, k1, k2⟩ := h3.set h4
            exact pend _ _ _ k2 k1
          · cases h4
        · cases hk
      · cases hk
    · cases hk
  | scope => intro l e h H Q he hh hk; cases hk
  | label => intro l e h H Q he hh hk; cases hk
  | goto => intro l e h H Q he hh hk; cases hk
  | refuse => intro l e h H Q he hh hk; cases hk

theorem rndE_ok {md : Nat → Bool} {fuel : Nat} : RoundOk P (rndE (wpE F call rnd P T md fuel)) := by
  intro id args h H K r hh hk
  unfold rndE at hk
  rw [hh.hget] at hk
  split at hk
  · rename_i env ps as bo st pd hi
    obtain ⟨hl, hk⟩ := gd_some hk
    obtain ⟨e, h1, h2⟩ := ofL_ok hk
    refine RoundP.intro hi (Nat.eq_of_beq_eq_true hl) (Wp.of hT (wpC_mono as _ _ _ _ (fun x e1 h1 hq => ?_) (wpE_ok hF hT hm hcall hrnd as _ _ _ _ _ h2 hh h1)))
    obtain ⟨e2, H2, he2, hh2, hq⟩ := hq
    unfold midRE at hq
    unfold midR
    split at hq
    · rw [hh2.hget] at hq
      split at hq
      · rename_i e1 ps1 as1 bo1 pd1 hi1
        simp only [hi1]
        rw [forceH_eq]
        obtain ⟨H3, k1, k2⟩ := hh2.set hq
        refine Wp.of hT (wpC_mono bo _ _ _ _ (fun x e h2 hq2 => ?_) (wpE_ok hF hT hm hcall hrnd bo _ _ _ _ _ he2 k2 k1))
        obtain ⟨e4, H4, he4, hh4, hq4⟩ := hq2
        unfold endRE at hq4
        unfold endR
        rw [hh4.hget] at hq4
        split at hq4
        · rename_i e2 ps2 as2 bo2 st2 pd2 hi2
          simp only [hi2]
          split at hq4 <;> (obtain ⟨H5, k3, k4⟩ := hh4.set hq4; simp only [forceH_eq]; exact ⟨H5, k4, k3⟩)
        · cases hq4
      · cases hq
    · cases hq
  · cases hk
end

theorem callF_ok {P : Program} {T : Nat → Option TI} {F : Nat → Option Func} {NE : Nat → Bool} (hF : FOk P F) (hNE : NEOk P NE) (hT : TOk P T) (hm : P.follows .mixedOrders = true) {md : Nat → Nat → Bool} {fuel : Nat} : ∀ (n : Nat), CallOk P (callF F NE P T md fuel n).1 ∧ RoundOk P (callF F NE P T md fuel n).2 := by
  intro n
  induction n with
  | zero => exact ⟨fun g args h H K r hh hk => (by cases hk), fun g args h H K r hh hk => (by cases hk)⟩
  | succ n ih =>
    refine ⟨fun g args h H K r hh hk => ?_, rndE_ok hF hT hm ih.1 ih.2⟩
    simp only [callF] at hk
    split at hk
    · rename_i fn hf
      split at hk
      · rename_i c hc
        obtain ⟨hp, hnm⟩ := hF g fn hf
        obtain ⟨e, h1, h2⟩ := startE_ok hk
        refine Sem.of_body hT (md g) hp hc hnm ?_
        unfold bodyP
        rw [forceL_eq]
        refine wpC_mono c _ _ _ _ (fun x l1 h1 hq => ?_) (wpE_ok hF hT hm ih.1 ih.2 c _ _ _ _ _ h2 hh h1)
        obtain ⟨e2, H2, he2, hh2, hq⟩ := hq
        cases x with
        | normal => exact retE_ok he2 hh2 hq
        | exit id => cases hq
        | ret => exact retE_ok he2 hh2 hq
      · obtain ⟨h1, h2⟩ := gd_some hk
        split at h2
        · exact hNE g h1 _ _ _ ⟨H, hh, h2⟩
        · cases h2
    · cases hk
end Go.Cx
