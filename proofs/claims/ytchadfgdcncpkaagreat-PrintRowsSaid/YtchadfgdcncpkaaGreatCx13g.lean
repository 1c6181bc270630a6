/- A calculus for calls of the program: canonical values and heaps, and what each operation, loop and call does to them; no condition on the program. -/
import Derived.Test.YtchadfgdcncpkaaGreatCx8g
import Derived.OpenShut
import Derived.SizedLaws
namespace Go.Cx
open Go.RowKit

section
variable {P : Program} {T : Nat → Option TI} {ops : Array Oper}

theorem guardB_wanted {φ : Phi} {μ : Mu} {env : List V} {tmps : Array Value} (he : EnvR φ μ env tmps) {o : Oper} {b : Bool} (h : guardB ops env o.guard = some b) : Region.wanted o (yielded ops tmps) = b := by
  unfold guardB at h
  split at h
  · rename_i hg
    simp only [Option.some.injEq] at h
    subst h
    simp [Region.wanted, hg]
  · rename_i j want hg
    split at h
    · rename_i d hd
      rw [Option.bind_eq_some_iff] at hd
      obtain ⟨oj, h1, h2⟩ := hd
      split at h
      · rename_i b' hb
        simp only [Option.some.injEq] at h
        subst h
        have hy := yielded_bool he h1 h2 hb
        simp [Region.wanted, hg, hy]
      · rename_i hb
        simp only [Option.some.injEq] at h
        subst h
        have hy := yielded_none he h1 h2 hb
        simp [Region.wanted, hg, hy]
      · cases h
    · cases h

end

/-- Where new blocks stand. -/
def posOf (n0 : Nat) (tr : Nat → Tr) : Nat → Nat
  | 0 => n0
  | i + 1 => posOf n0 tr i + (tr i).nw
theorem posOf_mono {n0 : Nat} {tr : Nat → Tr} : ∀ {i j : Nat}, i ≤ j → posOf n0 tr i ≤ posOf n0 tr j
  | i, 0, h => by have : i = 0 := by omega
                  subst this; exact Nat.le_refl _
  | i, j + 1, h => by
    rcases Nat.lt_or_ge i (j + 1) with h1 | h1
    · have := posOf_mono (n0 := n0) (tr := tr) (show i ≤ j by omega)
      simp only [posOf]; omega
    · have : i = j + 1 := by omega
      subst this; exact Nat.le_refl _

section
variable {P : Program} {T : Nat → Option TI} {md : Bool} (hT : TOk P T)

theorem CallR_mono (g : FuncId) : ∀ w cargs (Q Q' : Ending → World → Prop), (∀ e w', Q e w' → Q' e w') → CallR P g w cargs Q → CallR P g w cargs Q' := fun _ _ _ _ hQ h => CallTo.mono h hQ
theorem RoundR_mono : ∀ w cargs (Q Q' : Ending → World → Prop), (∀ e w', Q e w' → Q' e w') → RoundR P w cargs Q → RoundR P w cargs Q' := fun _ _ _ _ hQ ⟨b, rest, h1, f, tmps, as, bo, h2, h3⟩ => ⟨b, rest, h1, f, tmps, as, bo, h2, h3.mono hQ⟩

def outW (h : Heap) (t : Tr) : Out := ⟨true, t.v, wrT h t, t.acc, t.nw⟩

include hT
/-- One operation of a region that draws, in whatever heap that has what it looks at. -/
theorem OpT_ok {ρ : Option Nat} {φ : Phi} {μ : Mu} {B : Nat} {h : Heap} {w : World} (hB : B ≤ w.heap.size) (r : Rel φ μ B h w) {a : Act} {ev : Operand → V} (he : ∀ x, Rv φ μ (ev x) (a.eval x)) (Q : Exit → Act → World → Prop) (o : Oper) {nid : Nat} {t : Tr} (hnid : nid + t.nw ≤ h.length) (hfree : ∀ q, q < t.nw → μ (nid + q) = none)
    (hk : OpT P T md ev h nid o.op t) : o.wpIn (fen ρ) 0 P a w (fun a' w' => ∃ cv, a' = a.put o.dst cv ∧ OutR φ μ B h w nid (outW h t) cv w') Q := by
  have hW : t.ins = none → outW h t = outOf t := fun hi => by
    unfold outW outOf wrT
    rw [hi]
  have plain : opF P T md ev (hget h) nid o.op = some (outOf t) → (∀ c, o.op ≠ .defer c) → o.wpIn (fen ρ) 0 P a w (fun a' w' => ∃ cv, a' = a.put o.dst cv ∧ OutR φ μ B h w nid (outOf t) cv w') Q := fun hf hd => by
    obtain ⟨cv, w', h1, h2⟩ := opF_ok hT hB r (out := outOf t) rfl hnid hfree he o hf
    refine wpIn_of_op hd ?_
    rcases h1 with h1 | ⟨h1, rfl⟩
    · exact wp_value Q h1 h2
    · exact wp_skipped Q h1 h2
  cases ho : o.op
  case call c =>
    have hd : ∀ c', o.op ≠ .defer c' := fun c' e => by rw [ho] at e; cases e
    rw [ho] at hk
    simp only [OpT] at hk
    split at hk
    · rename_i f hf
      have hfv := he f
      generalize hcf : a.eval f = cf at hfv
      split at hk
      · rename_i g first caps hid
        rw [hid] at hfv
        obtain ⟨hi0, hs, e1, h2, h3, h4, h5⟩ := hk
        rw [hW hi0]
        subst e1
        cases hfv with
        | fn _ _ _ _ c1 c2 l1 l2 k1 k2 =>
          have hA : RvL φ μ (first ++ (c.args.toList.map ev) ++ caps) (c1 ++ c.args.map a.eval ++ c2) :=
            (RvA.app (RvA.app ⟨l1, k1⟩ ⟨(evL he c.args).1, (evL he c.args).2⟩) ⟨l2, k2⟩).toL
          have hres := frame (CallR_mono (P := P) g) h5 h4 hB r hA (fun i k hk => (h2 i k hk).2) hnid hfree
          refine wpIn_of_op hd ?_
          rcases hres with ⟨hent, hcalls⟩ | ⟨v, hval, cv, hret, hq⟩
          · have hrun : (execOp a.eval o).run P w = .ok (.enter g (c1 ++ c.args.map a.eval ++ c2)) w := by
              unfold execOp
              simp only [ho, resolve, hf, hcf, Deferred.ofValue, Sem.run_bind, Sem.run_pure, Result.andThen_ok, invoke]
              exact hent
            unfold Oper.wp
            rw [hrun, Oper.upon_enter]
            refine hcalls.mono fun e w' ⟨cv, he', hq⟩ => ?_
            subst he'
            exact ⟨cv, rfl, hq⟩
          · have hrun : (execOp a.eval o).run P w = .ok (.value v) w := by
              unfold execOp
              simp only [ho, resolve, hf, hcf, Deferred.ofValue, Sem.run_bind, Sem.run_pure, Result.andThen_ok, invoke]
              exact hval
            cases hret
            exact wp_value Q hrun hq
      · rename_i id hid
        rw [hid] at hfv
        obtain ⟨hi0, hs, e1, h2, h3, h4, h5⟩ := hk
        rw [hW hi0]
        subst e1
        cases hfv with
        | yld _ _ b hb =>
          have hA : RvL φ μ (.yld id :: c.args.toList.map ev) (#[.func (.yield b) #[] #[]] ++ c.args.map a.eval) := by
            have : RvA φ μ ([V.yld id] ++ c.args.toList.map ev) (#[.func (.yield b) #[] #[]] ++ c.args.map a.eval) := RvA.app ⟨rfl, fun j hj => by
              simp at hj; subst hj; exact .yld _ _ _ hb⟩ ⟨(evL he c.args).1, (evL he c.args).2⟩
            exact this.toL
          have hres := frame (RoundR_mono (P := P)) h5 h4 hB r hA (fun i k hk => (h2 i k hk).2) hnid hfree
          obtain ⟨b', rest, hca, fn, tmps, as, bo, hy, hround⟩ := hres
          have hbb : b' = b ∧ rest = c.args.map a.eval := by
            have h6 := congrArg Array.toList hca
            simp at h6
            exact ⟨h6.1.symm, by rw [← Array.toList_inj, ← h6.2, Array.toList_map]⟩
          obtain ⟨rfl, rfl⟩ := hbb
          refine ⟨fun _ _ => trivial, ?_⟩
          have hrun : (execOp a.eval o).run P w = .ok (.round b' fn tmps as bo) w := by
            unfold execOp
            simp only [ho, resolve, hf, hcf, Deferred.ofValue, Sem.run_bind, Sem.run_pure, Result.andThen_ok, invoke, Array.empty_append, hy]
          rw [fen_round, semAt_fen hd, hrun, Oper.uponIn_round]
          refine ⟨depth_fen, (roundIn_fen hround).mono fun e w' ⟨cv, he', hq⟩ => ?_⟩
          subst he'
          exact ⟨cv, rfl, hq⟩
      · exact hk.elim
    · exact hk.elim
    · rw [hW hk.1]; exact plain (by rw [ho]; exact hk.2) hd
  case defer c =>
    rw [ho] at hk
    have hk' : (none : Option Out) = some (outOf t) := hk.2
    cases hk'
  case insert mt m k v =>
    rw [ho] at hk
    obtain ⟨ti, kt, e, id, es, clock, h1, h2, h3, h4, h5, h6, rfl⟩ := hk
    have hf : opF P T md ev (hget h) nid o.op = some ⟨true, .undef, [(id, .mapc (insK (ev k) (ev v) es) (clock + 1))], [id], 0⟩ := by
      rw [ho]
      simp only [opF, insertF, h1, h2, h3, h5, h6, h4]
    obtain ⟨cv, w', g1, g2⟩ := opF_ok hT hB r (out := ⟨true, .undef, [(id, .mapc (insK (ev k) (ev v) es) (clock + 1))], [id], 0⟩) rfl hnid hfree he o hf
    have hw : outW h ⟨.undef, [], [], 0, some (id, kt, ev k, ev v)⟩ = ⟨true, .undef, [(id, .mapc (insK (ev k) (ev v) es) (clock + 1))], [], 0⟩ := by
      unfold outW wrT
      simp only [h5]
    rw [hw]
    refine wpIn_of_op (fun c' e => by rw [ho] at e; cases e) ?_
    rcases g1 with g1 | ⟨g1, rfl⟩
    · exact wp_value Q g1 g2
    · exact wp_skipped Q g1 g2
  all_goals (rw [ho] at hk; have hk := hk; rw [hW hk.1]; exact plain (by rw [ho]; exact hk.2) (fun c' e => by rw [ho] at e; cases e))
end

section
variable {P : Program} {T : Nat → Option TI} {md : Bool} {ops : Array Oper}

/-- What holds between the steps. -/
structure DSt (φ0 : Phi) (μ0 : Mu) (B : Nat) (w0 : World) (ds : List Deferred) (n0 sz : Nat) (tr : Nat → Tr) (listed : Array Bool) (D : Ds) (φ : Phi) (μ : Mu) (a : Act) (w : World) : Prop where
  env : EnvR φ μ D.1 a.tmps
  rel : Rel φ μ B D.2 w
  ext : Ext φ0 μ0 w0 φ μ
  fr : Fr μ0 w0 w
  dfr : a.defers = ds
  len : D.2.length = posOf n0 tr sz
  lst : listed.size = sz
  new : ∀ i, n0 ≤ i → μ i ≠ none → ∃ j, j < sz ∧ listed.getD j true = true ∧ posOf n0 tr j ≤ i ∧ i < posOf n0 tr (j + 1) ∧ hget D.2 i ≠ none

theorem anyD_ok {ρ : Option Nat} (hT : TOk P T) {φ0 : Phi} {μ0 : Mu} {B : Nat} {w0 : World} {ds : List Deferred} {n0 : Nat} (hB : B ≤ w0.heap.size) {tr : Nat → Tr} {Q : Ds → Prop} {R : Exit → Act → World → Prop}
    (hQ : ∀ D φ μ a w listed, Q D → DSt φ0 μ0 B w0 ds n0 ops.size tr listed D φ μ a w → R .normal a w) :
    ∀ (fuel : Nat) (listed : Array Bool) (D : Ds) (φ : Phi) (μ : Mu) (a : Act) (w : World), DSt φ0 μ0 B w0 ds n0 ops.size tr listed D φ μ a w → anyD P T md ops (posOf n0 tr) tr Q fuel listed D → wpAnyIn (fen ρ) 0 P .any ops R fuel listed a w := by
  intro fuel
  induction fuel with
  | zero => intro listed D φ μ a w hs h; exact ⟨h.1, hQ D φ μ a w listed h.2 hs⟩
  | succ fuel ih =>
    intro listed D φ μ a w hs h
    refine ⟨fun hr => hQ D φ μ a w listed (h.1 hr) hs, fun i hi => ?_⟩
    obtain ⟨hun, o, ho, _⟩ := mem_ready.1 hi
    obtain ⟨hloc, hnext⟩ := h.2 i hi o ho
    have hisz := (Array.getElem?_eq_some_iff.1 ho).1
    unfold wpOpIn
    simp only [ho]
    rcases hloc with ⟨hg, hop⟩ | ⟨hg, ht⟩
    · rw [if_pos (guardB_wanted hs.env hg)]
      have hp1 : posOf n0 tr (i + 1) ≤ posOf n0 tr ops.size := posOf_mono (by omega)
      have hpi : posOf n0 tr (i + 1) = posOf n0 tr i + (tr i).nw := rfl
      have hn0 : n0 ≤ posOf n0 tr i := posOf_mono (n0 := n0) (tr := tr) (Nat.zero_le i)
      have hfree : ∀ q, q < (tr i).nw → μ (posOf n0 tr i + q) = none := fun q hq => by
        cases hm : μ (posOf n0 tr i + q) with
        | none => rfl
        | some x =>
          exfalso
          obtain ⟨j, j1, j2, j3, j4, _⟩ := hs.new (posOf n0 tr i + q) (by omega) (by rw [hm]; simp)
          have hji : j = i := by
            rcases Nat.lt_trichotomy j i with hlt | heq | hgt
            · have := posOf_mono (n0 := n0) (tr := tr) (show j + 1 ≤ i by omega); omega
            · exact heq
            · have := posOf_mono (n0 := n0) (tr := tr) (show i + 1 ≤ j by omega); omega
          subst hji
          rw [hun] at j2; cases j2
      have := OpT_ok (ρ := ρ) hT (Nat.le_trans hB hs.fr.size) hs.rel (fun x => hs.env.eval hs.rel x) R o (by rw [hs.len]; omega) hfree hop
      refine Go.Oper.wpIn_mono ?_ this
      rintro a' w' ⟨cv, rfl, φ', μ', hv, hr', hx, hf, hmu⟩
      have hlen' : (applyW D.2 (wrT D.2 (tr i))).length = posOf n0 tr ops.size := by rw [applyW_length, hs.len]
      refine ih _ _ φ' μ' _ w' ⟨?_, hr', hs.ext.trans hs.fr.size hx, hs.fr.trans hs.ext hf, ?_, hlen', ?_, ?_⟩ hnext
      · exact (hs.env.mono hx.phi hx.mu).put hv o.dst
      · rw [← hs.dfr]; cases o.dst <;> rfl
      · simpa using hs.lst
      · intro q hq hmq
        have old : μ q ≠ none → ∃ j, j < ops.size ∧ (listed.setIfInBounds i true).getD j true = true ∧ posOf n0 tr j ≤ q ∧ q < posOf n0 tr (j + 1) ∧ hget (applyW D.2 (wrT D.2 (tr i))) q ≠ none := fun hm => by
          obtain ⟨j, j1, j2, j3, j4, j5⟩ := hs.new q hq hm
          refine ⟨j, j1, ?_, j3, j4, applyW_some _ _ _ j5⟩
          by_cases hji : i = j
          · subst hji; simp [hs.lst, j1]
          · rw [getD_set_ne true hji]; exact j2
        by_cases he : μ' q = μ q
        · exact old (by rw [← he]; exact hmq)
        · obtain ⟨⟨k, hk⟩, hpl⟩ := hmu q he
          rcases hpl with hpl | hpl
          · refine ⟨i, hisz, by simp [hs.lst, hisz], hpl.1, by rw [hpi]; exact hpl.2, ?_⟩
            have hql : q < D.2.length := by rw [hs.len]; have := hpl.2; simp only [outW] at this; omega
            exact applyW_mem _ _ _ k hk hql
          · exact old hpl
    · have hw := guardB_wanted hs.env hg
      rw [hw, if_neg (by simp)]
      rw [ht] at hnext
      refine ⟨fun _ _ => trivial, ?_⟩
      refine ih _ (Dapp o ⟨.tup [], [], [], 0, none⟩ D) φ μ _ w ⟨hs.env.put (rv_skip _ _) o.dst, hs.rel, hs.ext, hs.fr, ?_, hs.len, by simpa using hs.lst, fun q hq hmq => ?_⟩ hnext
      · rw [← hs.dfr]; cases o.dst <;> rfl
      · obtain ⟨j, j1, j2, j3, j4, j5⟩ := hs.new q hq hmq
        refine ⟨j, j1, ?_, j3, j4, j5⟩
        by_cases hji : i = j
        · subst hji; simp [hs.lst, j1]
        · rw [getD_set_ne true hji]; exact j2
end

/-! ### In the order of the text, by reckoning -/
def forceW {β : Type} : List (Nat × Blk) → (List (Nat × Blk) → β) → β
  | [], k => k []
  | x :: xs, k => forceW xs fun ys => k (x :: ys)
theorem forceW_eq {β : Type} : ∀ (l : List (Nat × Blk)) (k : List (Nat × Blk) → β), forceW l k = k l
  | [], _ => rfl
  | x :: xs, k => by rw [forceW, forceW_eq xs]

def opDN (P : Program) (T : Nat → Option TI) (md : Bool) (ev : Operand → V) (h : Heap) (K : Tr → Prop) (op : Op) : Prop :=
  natL h.length fun nid => match opF P T md ev (hget h) nid op with
    | some o => cond o.c (K ⟨o.v, o.wr, o.acc, o.nw, none⟩) False
    | none => False

def insD (T : Nat → Option TI) (ev : Operand → V) (h : Heap) (mt : Nat) (m k v : Operand) (K : Tr → Prop) : Prop :=
  match T mt, ev m with
  | some ti, .map id =>
    (match ti.k, hget h id with
    | .map kt _, some (.mapc es _) => cond (keyOk T kt (ev k)) (match hitsV T kt (ev k) es with | some [] => (ev k).force fun k => (ev v).force fun v => K ⟨.undef, [], [], 0, some (id, kt, k, v)⟩ | _ => False) False
    | _, _ => False)
  | _, _ => False
theorem insD_ex {T : Nat → Option TI} {ev : Operand → V} {h : Heap} {mt : Nat} {m k v : Operand} {K : Tr → Prop} (hk : insD T ev h mt m k v K) : ∃ t, InsT T ev h mt m k v t ∧ K t := by
  unfold insD at hk
  split at hk
  · rename_i ti id h1 h2
    split at hk
    · rename_i kt e es clock h3 h4
      cases h5 : keyOk T kt (ev k) with
      | false => rw [h5] at hk; cases hk
      | true =>
        rw [h5] at hk
        simp only [cond_true] at hk
        split at hk
        · rename_i h6
          simp only [V.force_eq] at hk
          exact ⟨_, ⟨ti, kt, e, id, es, clock, h1, h2, h3, h5, h4, h6, rfl⟩, hk⟩
        · exact hk.elim
    · exact hk.elim
  · exact hk.elim

/-- The same, its outcome being given. -/
def opDX (P : Program) (T : Nat → Option TI) (md : Bool) (ev : Operand → V) (h : Heap) (K : Tr → Prop) (op : Op) : Prop :=
  ∃ v wr acc nw, opF P T md ev (hget h) h.length op = some ⟨true, v, wr, acc, nw⟩ ∧ K ⟨v, wr, acc, nw, none⟩
theorem opDX_iff {P : Program} {T : Nat → Option TI} {md : Bool} {ev : Operand → V} {h : Heap} {K : Tr → Prop} {op : Op} : opDN P T md ev h K op ↔ opDX P T md ev h K op := by
  unfold opDN opDX
  rw [natL_eq]
  constructor
  · intro hk
    split at hk
    · rename_i o ho
      obtain ⟨c, v, wr, acc, nw⟩ := o
      cases c with
      | false => exact hk.elim
      | true => exact ⟨v, wr, acc, nw, ho, hk⟩
    · exact hk.elim
  · rintro ⟨v, wr, acc, nw, ho, hk⟩
    rw [ho]
    exact hk
/-- One operation of a region that draws. -/
def opD (P : Program) (T : Nat → Option TI) (md : Bool) (ev : Operand → V) (h : Heap) (K : Tr → Prop) (op : Op) : Prop :=
  match op with
  | .call c =>
    (match c.callee with
    | .value f => (match ev f with
      | .fn (.func g) first caps => fl2 (first ++ (c.args.toList.map ev) ++ caps) fun args => ∃ t, CallT (CallR P g) args h h.length t ∧ K t
      | .yld id => fl2 (c.args.toList.map ev) fun args => ∃ t, CallT (RoundR P) (.yld id :: args) h h.length t ∧ K t
      | _ => False)
    | .invoke _ _ => False
    | .builtin _ => cond (apG ev c) (opDX P T md ev h K (.call c)) (opDN P T md ev h K (.call c)))
  | .indexAddr t x i => (match ev x, ev i with
    | .psl sz xs _, .int _ n => ∃ cs, (0 ≤ n ∧ xs[n.toNat]? = some cs) ∧ cond (idxOk T t sz) (K ⟨.iptr cs, [], [], 0, none⟩) False
    | _, _ => opDN P T md ev h K (.indexAddr t x i))
  | .insert mt m k v => insD T ev h mt m k v K
  | .lookup t m k ok => ∃ v acc, opF P T md ev (hget h) h.length (.lookup t m k ok) = some ⟨true, v, [], acc, 0⟩ ∧ K ⟨v, [], acc, 0, none⟩
  | .load t x => (match ev x with
    | .gptr i q ver => ∃ v, LdOk T t h i q ver v ∧ K ⟨v, [], [i], 0, none⟩
    | _ => opDN P T md ev h K (.load t x))
  | .slice t x lo hi mx => cond (slG (ev x) mx) (opDX P T md ev h K (.slice t x lo hi mx)) (opDN P T md ev h K (.slice t x lo hi mx))
  | op => opDN P T md ev h K op
theorem opDN_load {P : Program} {T : Nat → Option TI} {md : Bool} {ev : Operand → V} {h : Heap} {K : Tr → Prop} {t : Nat} {x : Operand} {i q ver : Nat} (hx : ev x = .gptr i q ver) (hk : opDN P T md ev h K (.load t x)) : ∃ v, LdOk T t h i q ver v ∧ K ⟨v, [], [i], 0, none⟩ := by
  unfold opDN at hk
  rw [natL_eq] at hk
  split at hk
  · rename_i o ho
    cases hc : o.c with
    | false => rw [hc] at hk; exact hk.elim
    | true =>
      obtain ⟨v, h1, rfl⟩ := opF_load hx ho hc
      exact ⟨v, h1, by simpa using hk⟩
  · exact hk.elim
theorem opDN_lookup {P : Program} {T : Nat → Option TI} {md : Bool} {ev : Operand → V} {h : Heap} {K : Tr → Prop} {t : Nat} {m k : Operand} {ok : Bool} (hk : opDN P T md ev h K (.lookup t m k ok)) : ∃ v acc, opF P T md ev (hget h) h.length (.lookup t m k ok) = some ⟨true, v, [], acc, 0⟩ ∧ K ⟨v, [], acc, 0, none⟩ := by
  unfold opDN at hk
  rw [natL_eq] at hk
  split at hk
  · rename_i o ho
    obtain ⟨h1, h2⟩ := opF_lookup ho
    obtain ⟨c, v, wr, acc, nw⟩ := o
    simp only at h1 h2
    subst h1 h2
    cases c with
    | false => exact hk.elim
    | true => exact ⟨v, acc, ho, hk⟩
  · exact hk.elim

def stepD (P : Program) (T : Nat → Option TI) (md : Bool) (all : List Oper) (o : Oper) (env : List V) (h : Heap) (trs : List Tr) (J : List V → Heap → List Tr → Prop) : Prop :=
  guardN all env o.guard
    (fun env => opD P T md (evE env) h (fun t => t.v.force fun v => forceW t.wr fun wr => forceWB (wrT h t) fun W => forceL (putE env o.dst v) fun env' => forceH (applyW (h ++ List.replicate t.nw none) W) fun h' => J env' h' (⟨v, wr, t.acc, t.nw, t.ins⟩ :: trs)) o.op)
    (fun env => forceL (putE env o.dst (.tup [])) fun env' => J env' h (⟨.tup [], [], [], 0, none⟩ :: trs))

def drawRun (P : Program) (T : Nat → Option TI) (md : Bool) (all l : List Oper) : List V → Heap → List Tr → (List Tr → List V → Heap → Prop) → Prop :=
  List.rec (motive := fun _ => List V → Heap → List Tr → (List Tr → List V → Heap → Prop) → Prop) (fun env h trs K => K trs env h)
    (fun o _ ih env h trs K => stepD P T md all o env h trs fun env' h' trs' => ih env' h' trs' K) l
theorem drawRun_cons {P : Program} {T : Nat → Option TI} {md : Bool} {all : List Oper} {o : Oper} {rest : List Oper} {env : List V} {h : Heap} {trs : List Tr} {K : List Tr → List V → Heap → Prop} :
    drawRun P T md all (o :: rest) env h trs K = stepD P T md all o env h trs fun env' h' trs' => drawRun P T md all rest env' h' trs' K := rfl

/-- Those that each waits for, at one remove or more: bits of a number. -/
def clOf (after : List Edge) (cls : List Nat) : Nat :=
  (after.filter (Region.binds .any)).foldl (fun m e => Nat.lor (Nat.lor m (Nat.shiftLeft 1 e.on)) (cls.getD e.on 0)) 0
def clList : List Oper → List Nat → List Nat
  | [], cls => cls
  | o :: rest, cls => clList rest (cls ++ [clOf o.after.toList cls])

def chkAfter (cls : List Nat) : List Oper → Nat → Bool
  | [], _ => true
  | o :: rest, j =>
    (o.after.toList.all fun e => !Region.binds .any e || Nat.blt e.on j) &&
    Nat.beq (cls.getD j 0) (clOf o.after.toList cls) &&
    chkAfter cls rest (j + 1)

def chkRow (T : Nat → Option TI) (ops : Array Oper) (cl : Nat) (y : Oper) (t : Tr) : List Oper → List Tr → Nat → Bool
  | x :: xs, s :: ss, i => (cl.testBit i || indep T ops x s y t) && chkRow T ops cl y t xs ss (i + 1)
  | _, _, _ => true
def chkPairs (T : Nat → Option TI) (ops : Array Oper) (cls : List Nat) : List Oper → List Tr → List Oper → List Tr → Nat → Bool
  | xs, ss, y :: ys, t :: ts, j => chkRow T ops (cls.getD j 0) y t xs ss 0 && chkPairs T ops cls (xs ++ [y]) (ss ++ [t]) ys ts (j + 1)
  | _, _, _, _, _ => true

def drawChk (T : Nat → Option TI) (all : List Oper) (trs : List Tr) : Bool :=
  forceL (clList all []) fun cls => chkAfter cls all 0 && chkPairs T all.toArray cls [] [] all trs 0

def bitsOf (m : Nat) : List Nat := (List.range (m.log2 + 1)).filter fun i => m.testBit i
theorem mem_bitsOf {m i : Nat} : i ∈ bitsOf m ↔ m.testBit i = true := by
  unfold bitsOf
  rw [List.mem_filter, List.mem_range]
  refine ⟨fun h => h.2, fun h => ⟨?_, h⟩⟩
  rcases Nat.lt_or_ge i (m.log2 + 1) with h' | h'
  · exact h'
  · have : m < 2 ^ i := Nat.lt_of_lt_of_le Nat.lt_log2_self (Nat.pow_le_pow_right (by omega) h')
    rw [Nat.testBit_lt_two_pow this] at h
    cases h

theorem clOf_fold (cls : List Nat) (i : Nat) : ∀ (l : List Edge) (m : Nat), (l.foldl (fun m e => Nat.lor (Nat.lor m (Nat.shiftLeft 1 e.on)) (cls.getD e.on 0)) m).testBit i = true → m.testBit i = true ∨ ∃ e ∈ l, e.on = i ∨ (cls.getD e.on 0).testBit i = true
  | [], m, h => .inl h
  | e :: l, m, h => by
    rcases clOf_fold cls i l _ h with h1 | ⟨e', he, h2⟩
    · change ((m ||| (1 <<< e.on)) ||| cls.getD e.on 0).testBit i = true at h1
      rw [Nat.testBit_or, Nat.testBit_or, Bool.or_eq_true, Bool.or_eq_true] at h1
      rcases h1 with (h1 | h1) | h1
      · exact .inl h1
      · refine .inr ⟨e, by simp, .inl ?_⟩
        rw [Nat.one_shiftLeft, Nat.testBit_two_pow] at h1
        simpa using h1
      · exact .inr ⟨e, by simp, .inr h1⟩
    · exact .inr ⟨e', by simp [he], h2⟩

theorem chkAfter_spec {cls : List Nat} : ∀ (l : List Oper) (j0 : Nat), chkAfter cls l j0 = true → ∀ (m : Nat) (o : Oper), l[m]? = some o →
    (∀ e ∈ o.after, Region.binds .any e = true → e.on < j0 + m) ∧ (∀ i ∈ bitsOf (cls.getD (j0 + m) 0), ∃ e ∈ o.after, Region.binds .any e = true ∧ e.on < j0 + m ∧ (e.on = i ∨ i ∈ bitsOf (cls.getD e.on 0)))
  | [], _, _, m, o, h => by simp at h
  | x :: xs, j0, hc, m, o, h => by
    simp only [chkAfter, Bool.and_eq_true, List.all_eq_true, Bool.or_eq_true, Bool.not_eq_true', Nat.blt_eq, Array.mem_toList_iff] at hc
    obtain ⟨⟨h1, h2⟩, h3⟩ := hc
    have h2 : cls.getD j0 0 = clOf x.after.toList cls := Nat.eq_of_beq_eq_true h2
    cases m with
    | zero =>
      simp only [List.getElem?_cons_zero, Option.some.injEq] at h
      subst h
      have hlt : ∀ e ∈ x.after, Region.binds .any e = true → e.on < j0 + 0 := fun e he hb => by
        rcases h1 e he with h | h
        · rw [hb] at h; cases h
        · simpa using h
      refine ⟨hlt, fun i hi => ?_⟩
      rw [Nat.add_zero, mem_bitsOf, h2] at hi
      rcases clOf_fold cls i _ _ hi with h | ⟨e, he, ho⟩
      · simp at h
      · rw [List.mem_filter] at he
        have he1 : e ∈ x.after := by simpa using he.1
        exact ⟨e, he1, he.2, hlt e he1 he.2, ho.imp id fun h => mem_bitsOf.2 h⟩
    | succ m =>
      have := chkAfter_spec xs (j0 + 1) h3 m o (by simpa using h)
      rwa [Nat.add_assoc, Nat.add_comm 1 m] at this

theorem chkRow_spec {T : Nat → Option TI} {ops : Array Oper} {cl : Nat} {y : Oper} {t : Tr} : ∀ (xs : List Oper) (ss : List Tr) (i0 : Nat), chkRow T ops cl y t xs ss i0 = true → ∀ (m : Nat) (x : Oper) (s : Tr), xs[m]? = some x → ss[m]? = some s → i0 + m ∉ bitsOf cl → indep T ops x s y t = true
  | [], _, _, _, m, x, s, h, _, _ => by simp at h
  | _ :: _, [], _, _, m, x, s, _, h, _ => by simp at h
  | x0 :: xs, s0 :: ss, i0, hc, m, x, s, hx, hs, hn => by
    simp only [chkRow, Bool.and_eq_true, Bool.or_eq_true] at hc
    cases m with
    | zero =>
      simp at hx hs
      subst hx; subst hs
      rcases hc.1 with h | h
      · exact absurd (mem_bitsOf.2 h) hn
      · exact h
    | succ m => exact chkRow_spec xs ss (i0 + 1) hc.2 m x s (by simpa using hx) (by simpa using hs) (by rwa [Nat.add_assoc, Nat.add_comm 1 m])

theorem chkPairs_spec {T : Nat → Option TI} {ops : Array Oper} {cls : List Nat} : ∀ (ys : List Oper) (ts : List Tr) (xs : List Oper) (ss : List Tr), xs.length = ss.length → chkPairs T ops cls xs ss ys ts xs.length = true →
    ∀ (m : Nat) (y : Oper) (t : Tr), ys[m]? = some y → ts[m]? = some t → ∀ (i : Nat) (x : Oper) (s : Tr), i < xs.length + m → (xs ++ ys)[i]? = some x → (ss ++ ts)[i]? = some s → i ∉ bitsOf (cls.getD (xs.length + m) 0) → indep T ops x s y t = true
  | [], _, _, _, _, _, m, y, t, h, _ => by simp at h
  | _ :: _, [], _, _, _, _, m, y, t, _, h => by simp at h
  | y0 :: ys, t0 :: ts, xs, ss, hl, hc, m, y, t, hy, ht => by
    simp only [chkPairs, Bool.and_eq_true] at hc
    intro i x s hi hx hs hn
    cases m with
    | zero =>
      simp at hy ht
      subst hy; subst ht
      have hi' : i < xs.length := by omega
      rw [List.getElem?_append_left hi'] at hx
      rw [List.getElem?_append_left (by omega)] at hs
      exact chkRow_spec xs ss 0 hc.1 i x s hx hs (by rw [Nat.zero_add]; exact hn)
    | succ m =>
      have e1 : (xs ++ [y0]).length = xs.length + 1 := by simp
      have := chkPairs_spec ys ts (xs ++ [y0]) (ss ++ [t0]) (by simp [hl]) (by rw [e1]; exact hc.2) m y t (by simpa using hy) (by simpa using ht) i x s (by rw [e1]; omega) (by simpa using hx) (by simpa using hs) (by rw [e1, Nat.add_assoc, Nat.add_comm 1 m]; exact hn)
      exact this


theorem opDN_ex {P : Program} {T : Nat → Option TI} {md : Bool} {ev : Operand → V} {h : Heap} {K : Tr → Prop} {op : Op} (hk : opDN P T md ev h K op) : ∃ t, (t.ins = none ∧ opF P T md ev (hget h) h.length op = some (outOf t)) ∧ K t := by
  unfold opDN at hk
  rw [natL_eq] at hk
  split at hk
  · rename_i o ho
    cases hc : o.c with
    | false => rw [hc] at hk; cases hk
    | true =>
      rw [hc] at hk
      refine ⟨⟨o.v, o.wr, o.acc, o.nw, none⟩, ⟨rfl, ?_⟩, hk⟩
      rw [ho]
      obtain ⟨c, v, wr, acc, nw⟩ := o
      simp only at hc
      subst hc
      rfl
  · cases hk

theorem opD_ex {P : Program} {T : Nat → Option TI} {md : Bool} {ev : Operand → V} {h : Heap} {K : Tr → Prop} (op : Op) (hk : opD P T md ev h K op) : ∃ t, OpT P T md ev h h.length op t ∧ K t := by
  cases op
  case call c =>
    simp only [opD] at hk
    simp only [OpT]
    split at hk
    · rename_i f hf
      simp only [hf]
      split at hk
      · rename_i hid
        rw [fl2_eq] at hk
        simp only [hid]
        exact hk
      · rename_i hid
        rw [fl2_eq] at hk
        simp only [hid]
        exact hk
      · exact hk.elim
    · exact hk.elim
    · rename_i hb
      simp only [hb]
      cases hap : apG ev c with
      | true => rw [hap] at hk; exact opDN_ex (opDX_iff.2 hk)
      | false => rw [hap] at hk; exact opDN_ex hk
  case indexAddr t x i =>
    simp only [opD] at hk
    simp only [OpT]
    split at hk
    · rename_i sz xs tk kk n hx hi
      obtain ⟨cs, ⟨h1, h2⟩, h3⟩ := hk
      obtain ⟨hl, hE⟩ := List.getElem?_eq_some_iff.1 h2
      unfold idxOk at h3
      split at h3
      · rename_i ti hti
        split at h3
        · rename_i e hke
          split at h3
          · rename_i ei hei
            cases hsz : (sz == ei.size) with
            | false => rw [hsz] at h3; cases h3
            | true =>
              rw [hsz] at h3
              have hb : (decide (0 ≤ n) && decide (n < (xs.length : Int))) = true := by
                simp only [Bool.and_eq_true, decide_eq_true_eq]; omega
              have hg : xs.getD n.toNat [] = cs := by rw [List.getD_eq_getElem?_getD, h2]; rfl
              exact ⟨_, ⟨rfl, by simp only [opF, pureO, indexAddrO, hti, hke, hei, hx, hi, hsz, cond_true, hb, hg, outOf]⟩, h3⟩
          · cases h3
        · cases h3
      · cases h3
    · exact opDN_ex hk
  case lookup t m k ok =>
    simp only [opD] at hk
    simp only [OpT]
    obtain ⟨v, acc, h1, h2⟩ := hk
    exact ⟨⟨v, [], acc, 0, none⟩, ⟨rfl, h1⟩, h2⟩
  case load t x =>
    simp only [opD] at hk
    split at hk
    · rename_i hx
      obtain ⟨v, h1, h2⟩ := hk
      exact ⟨⟨v, [], _, 0, none⟩, ⟨rfl, h1.opF hx⟩, h2⟩
    · exact opDN_ex hk
  case slice t x lo hi mx =>
    simp only [opD] at hk
    cases hs : slG (ev x) mx with
    | true => rw [hs] at hk; exact opDN_ex (opDX_iff.2 hk)
    | false => rw [hs] at hk; exact opDN_ex hk
  case insert mt m k v =>
    simp only [opD] at hk
    simp only [OpT]
    exact insD_ex hk
  all_goals (simp only [opD] at hk; simp only [OpT]; exact opDN_ex hk)

theorem OpT.bound {P : Program} {T : Nat → Option TI} {md : Bool} {ev : Operand → V} {h : Heap} {op : Op} {t : Tr} (ho : OpT P T md ev h h.length op t) : ∀ p ∈ wrT h t, p.1 < h.length + t.nw := by
  have lt : ∀ {i : Nat}, hget h i ≠ none → i < h.length := fun {i} hn => by
    rcases Nat.lt_or_ge i h.length with h1 | h1
    · exact h1
    · exact absurd (by unfold hget; rw [List.getElem?_eq_none h1]; rfl) hn
  have hW : t.ins = none → wrT h t = t.wr := fun hi => by unfold wrT; rw [hi]
  have plain : ∀ {op : Op}, opF P T md ev (hget h) h.length op = some (outOf t) → ∀ p ∈ t.wr, p.1 < h.length + t.nw := fun hf p hp => by
    rcases (opF_wr hf p hp).2 with h1 | h1
    · exact h1.2
    · have := lt h1; omega
  have call : ∀ {R : RunR} {args : List V}, CallT R args h h.length t → ∀ p ∈ t.wr, p.1 < h.length + t.nw := fun ⟨_, hs, e, h2, _, h4, _⟩ p hp => by
    rcases h4.wr p hp with h1 | h1
    · rw [← e]; exact h1.2
    · have := (liveB_ex h1).1; omega
  cases op
  case call c =>
    simp only [OpT] at ho
    split at ho
    · split at ho
      · rw [hW ho.1]; exact call ho
      · rw [hW ho.1]; exact call ho
      · exact ho.elim
    · exact ho.elim
    · rw [hW ho.1]; exact plain ho.2
  case insert mt m k v =>
    simp only [OpT] at ho
    obtain ⟨ti, kt, e, id, es, clock, h1, h2, h3, h4, h5, h6, rfl⟩ := ho
    intro p hp
    unfold wrT at hp
    simp only [h5, List.mem_singleton] at hp
    subst hp
    have := lt (i := id) (by rw [h5]; simp)
    simp only; omega
  all_goals (simp only [OpT] at ho; rw [hW ho.1]; exact plain ho.2)

theorem applyW_append : ∀ (wr : List (Nat × Blk)) (a b : Heap), (∀ p ∈ wr, p.1 < a.length) → applyW (a ++ b) wr = applyW a wr ++ b
  | [], a, b, _ => rfl
  | p :: wr, a, b, hp => by
    show applyW ((a ++ b).set p.1 (some p.2)) wr = applyW (a.set p.1 (some p.2)) wr ++ b
    rw [List.set_append_left _ _ (hp p (by simp)), applyW_append wr _ b (fun q hq => by simpa using hp q (by simp [hq]))]

theorem drawRun_ex {P : Program} {T : Nat → Option TI} {md : Bool} {all : List Oper} : ∀ (l : List Oper) (k : Nat) (env : List V) (h : Heap) (trs : List Tr) (K : List Tr → List V → Heap → Prop), drawRun P T md all l env h trs K →
    ∃ (trs2 : List Tr) (env' : List V) (h' : Heap), trs2.length = l.length ∧ K (trs2.reverse ++ trs) env' h' ∧ ∀ (n0 N : Nat) (tr : Nat → Tr), (∀ m, m < l.length → tr (k + m) = trs2.getD m default) → posOf n0 tr k = h.length → posOf n0 tr (k + l.length) ≤ N →
      h'.length = posOf n0 tr (k + l.length) ∧ LexD P T md all.toArray (posOf n0 tr) tr (fun D => D = (env', h' ++ List.replicate (N - h'.length) none)) l k (env, h ++ List.replicate (N - h.length) none)
  | [], k, env, h, trs, K, hk => ⟨[], env, h, rfl, hk, fun n0 N tr _ hp _ => ⟨hp.symm, rfl⟩⟩
  | o :: rest, k, env, h, trs, K, hk => by
    have step : ∀ (t : Tr) (env1 : List V), env1 = putE env o.dst t.v → (∀ p ∈ wrT h t, p.1 < h.length + t.nw) → (∀ (D : Heap), (∀ i, hget D i = hget h i) → LocOp P T md all.toArray h.length o t (env, D)) →
        drawRun P T md all rest env1 (applyW (h ++ List.replicate t.nw none) (wrT h t)) (t :: trs) K →
        ∃ (trs2 : List Tr) (env' : List V) (h' : Heap), trs2.length = (o :: rest).length ∧ K (trs2.reverse ++ trs) env' h' ∧ ∀ (n0 N : Nat) (tr : Nat → Tr), (∀ m, m < (o :: rest).length → tr (k + m) = trs2.getD m default) → posOf n0 tr k = h.length → posOf n0 tr (k + (o :: rest).length) ≤ N →
          h'.length = posOf n0 tr (k + (o :: rest).length) ∧ LexD P T md all.toArray (posOf n0 tr) tr (fun D => D = (env', h' ++ List.replicate (N - h'.length) none)) (o :: rest) k (env, h ++ List.replicate (N - h.length) none) := fun t env1 henv hb hloc hr => by
      subst henv
      obtain ⟨trs2, env', h', h1, h2, h3⟩ := drawRun_ex rest (k + 1) _ _ _ K hr
      refine ⟨t :: trs2, env', h', by simp [h1], by simpa using h2, fun n0 N tr htr hpos hN => ?_⟩
      have e0 : tr k = t := by simpa using htr 0 (by simp)
      have hpos1 : posOf n0 tr (k + 1) = h.length + t.nw := by simp only [posOf, hpos, e0]
      have hl1 : (applyW (h ++ List.replicate t.nw none) (wrT h t)).length = h.length + t.nw := by rw [applyW_length]; simp
      have hkl : k + (o :: rest).length = k + 1 + rest.length := by simp; omega
      rw [hkl] at hN ⊢
      have hmono : h.length + t.nw ≤ N := by rw [← hpos1]; exact Nat.le_trans (posOf_mono (by omega)) hN
      obtain ⟨g1, g2⟩ := h3 n0 N tr (fun m hm => by
        have := htr (m + 1) (by simp; omega)
        simpa [Nat.add_assoc, Nat.add_comm 1 m] using this) (hpos1.trans hl1.symm) hN
      refine ⟨g1, ?_, ?_⟩
      · rw [hpos, e0]
        exact hloc _ (fun i => hget_pad h _ i)
      · have e1 : Dapp o (tr k) (env, h ++ List.replicate (N - h.length) none) = (putE env o.dst t.v, applyW (h ++ List.replicate t.nw none) (wrT h t) ++ List.replicate (N - (applyW (h ++ List.replicate t.nw none) (wrT h t)).length) none) := by
          rw [e0, hl1]
          simp only [Dapp]
          have ew : wrT (h ++ List.replicate (N - h.length) none) t = wrT h t := wrT_same fun i _ => hget_pad h _ i
          rw [ew]
          congr 1
          rw [← applyW_append _ _ _ (fun p hp => by simp; exact hb p hp), List.append_assoc, List.replicate_append_replicate]
          congr 3
          omega
        rw [e1]
        exact g2
    have hrun : guardB all.toArray env o.guard = some true → (opD P T md (evE env) h (fun t => t.v.force fun v => forceW t.wr fun wr => forceWB (wrT h t) fun W => forceL (putE env o.dst v) fun env' => forceH (applyW (h ++ List.replicate t.nw none) W) fun h' => drawRun P T md all rest env' h' (⟨v, wr, t.acc, t.nw, t.ins⟩ :: trs) K) o.op) → ∃ (trs2 : List Tr) (env' : List V) (h' : Heap), trs2.length = (o :: rest).length ∧ K (trs2.reverse ++ trs) env' h' ∧ ∀ (n0 N : Nat) (tr : Nat → Tr), (∀ m, m < (o :: rest).length → tr (k + m) = trs2.getD m default) → posOf n0 tr k = h.length → posOf n0 tr (k + (o :: rest).length) ≤ N →
          h'.length = posOf n0 tr (k + (o :: rest).length) ∧ LexD P T md all.toArray (posOf n0 tr) tr (fun D => D = (env', h' ++ List.replicate (N - h'.length) none)) (o :: rest) k (env, h ++ List.replicate (N - h.length) none) := fun hg ho => by
      obtain ⟨t, hop, hK⟩ := opD_ex o.op ho
      simp only [V.force_eq, forceW_eq, forceWB_eq, forceL_eq, forceH_eq] at hK
      exact step t _ rfl hop.bound (fun D hD => .inl ⟨hg, hop.local (fun i _ => (hD i).symm)⟩) hK
    have hskip : guardB all.toArray env o.guard = some false → (forceL (putE env o.dst (.tup [])) fun env' => drawRun P T md all rest env' h (⟨.tup [], [], [], 0, none⟩ :: trs) K) → ∃ (trs2 : List Tr) (env' : List V) (h' : Heap), trs2.length = (o :: rest).length ∧ K (trs2.reverse ++ trs) env' h' ∧ ∀ (n0 N : Nat) (tr : Nat → Tr), (∀ m, m < (o :: rest).length → tr (k + m) = trs2.getD m default) → posOf n0 tr k = h.length → posOf n0 tr (k + (o :: rest).length) ≤ N →
          h'.length = posOf n0 tr (k + (o :: rest).length) ∧ LexD P T md all.toArray (posOf n0 tr) tr (fun D => D = (env', h' ++ List.replicate (N - h'.length) none)) (o :: rest) k (env, h ++ List.replicate (N - h.length) none) := fun hg hs => by
      rw [forceL_eq] at hs
      exact step ⟨.tup [], [], [], 0, none⟩ _ rfl (fun p hp => by cases hp) (fun D hD => .inr ⟨hg, rfl⟩) (by simpa [applyW, wrT] using hs)
    rw [drawRun_cons] at hk
    unfold stepD at hk
    replace hk := guardN_old hk
    dsimp only at hk
    unfold guardP at hk
    split at hk
    · rename_i hg
      exact hrun (by simp [guardB, hg]) hk
    · rename_i j want hg
      split at hk
      · rename_i oj hoj
        split at hk
        · rename_i d hd
          have hb : ∀ b, env.getD d .undef = .bool b → guardB all.toArray env o.guard = some (b == want) := fun b hb => by
            simp [guardB, hg, hoj, hd] at hb ⊢; simp [hb]
          split at hk
          · rename_i b hb1
            cases b with
            | true => exact hrun (hb _ hb1) (hk.1 rfl)
            | false => exact hskip (hb _ hb1) (hk.2 rfl)
          · rename_i b hb1
            cases b with
            | true => exact hskip (hb _ hb1) (hk.1 rfl)
            | false => exact hrun (hb _ hb1) (hk.2 rfl)
          · rename_i hb1
            exact hskip (by simp [guardB, hg, hoj, hd] at hb1 ⊢; simp [hb1]) hk
          · cases hk
        · cases hk
      · cases hk

def drawP (P : Program) (T : Nat → Option TI) (md : Bool) (ops : List Oper) (env : List V) (h : Heap) (K : List V → Heap → Prop) : Prop :=
  drawRun P T md ops ops env h [] fun trs env' h' => drawChk T ops trs.reverse = true ∧ K env' h'

theorem DrawP.intro {P : Program} {T : Nat → Option TI} (hT : TOk P T) (hm : P.follows .mixedOrders = true) (md : Bool) {ops : List Oper} {env : List V} {h : Heap} {K : List V → Heap → Prop} (hk : drawP P T md ops env h K) : DrawP P T ops env h K := by
  refine ⟨fun ρ φ μ B w a id _ hB r he => wpIn_region_any hm ?_⟩
  obtain ⟨trs, env', h', hlen, hK, hlex⟩ := drawRun_ex ops 0 env h [] _ hk
  simp only [List.append_nil, List.reverse_reverse] at hK
  obtain ⟨hchk, hK⟩ := hK
  simp only [drawChk, forceL_eq, Bool.and_eq_true] at hchk
  obtain ⟨hc1, hc2⟩ := hchk
  have hs1 := chkAfter_spec ops 0 hc1
  have hs2 := chkPairs_spec ops trs [] [] rfl hc2
  obtain ⟨hl', hlex⟩ := hlex h.length (posOf h.length (fun m => trs.getD m default) (0 + ops.length)) (fun m => trs.getD m default) (fun m _ => by simp) rfl (Nat.le_refl _)
  rw [Nat.zero_add] at hl' hlex
  have hpad0 : posOf h.length (fun m => trs.getD m default) ops.length - h'.length = 0 := by omega
  rw [hpad0, List.replicate_zero, List.append_nil] at hlex
  have hany := anyD_lex (ops := ops.toArray) (cl := fun j => bitsOf ((clList ops []).getD j 0)) (pos := posOf h.length (fun m => trs.getD m default)) (fun j o ho i hi => ?_) (fun j o ho e he hb => ?_) (fun i j oi oj hij hi hj hno => ?_) ops 0 (Array.replicate ops.toArray.size false) _ (fun m => by simp) (fun m hm => by simp [Array.getElem?_replicate]; split <;> rfl) (by simp) hlex
  · have hst : DSt φ μ B w a.defers h.length ops.toArray.size (fun m => trs.getD m default) (Array.replicate ops.toArray.size false) (env, h ++ List.replicate (posOf h.length (fun m => trs.getD m default) ops.length - h.length) none) φ μ a { w with drawn := w.drawn + 1 } :=
      ⟨he, r.pad (w' := { w with drawn := w.drawn + 1 }) rfl _, Ext.refl _ _ _, ⟨rfl, rfl, rfl, Nat.le_refl _, fun _ _ _ => rfl, fun _ r h => ⟨r, h⟩, Nat.le_succ _⟩, rfl, by
        have := posOf_mono (n0 := h.length) (tr := fun m => trs.getD m default) (Nat.zero_le ops.length)
        simp only [posOf] at this
        simp only [List.length_append, List.length_replicate, List.size_toArray]
        omega, by simp, fun i hi hmi => by
        exfalso
        cases hmm : μ i with
        | none => exact hmi hmm
        | some x => have := (r.dom _ x.1 x.2 hmm).1; omega⟩
    refine anyD_ok hT hB ?_ ops.toArray.size _ _ φ μ a _ hst (by simpa using hany)
    rintro D φ' μ' a' w' listed rfl hs
    exact ⟨env', _, φ', μ', rfl, hK, hs.env, hs.rel, hs.ext, hs.fr, hs.dfr⟩
  · have := (hs1 j o (by simpa using ho)).2 i (by simpa using hi)
    simpa using this
  · have := (hs1 j o (by simpa using ho)).1 e he hb
    simpa using this
  · have hjl : j < trs.length := by
      rw [hlen]
      have := (Array.getElem?_eq_some_iff.1 hj).1
      simpa using this
    refine hs2 j oj (trs.getD j default) (by simpa using hj) (by simp [hjl]) i oi (trs.getD i default) (by simpa using hij) (by simpa using hi) (by simp [show i < trs.length by omega]) (by simpa using hno)

/-! ### Calls that only compute, in a region that draws -/
theorem free1_refs1 {v : V} {p : Nat → Bool} (h : v.free1 = true) : v.refs1 p = true := by
  cases v <;> first | rfl | (cases h; done) | exact h | skip
  rename_i tok
  cases tok <;> first | rfl | cases h

theorem free1_refs2 {v : V} {p : Nat → Bool} (h : v.free1 = true) : v.refs2 p = true := by
  have h1 := free1_refs1 (p := p) h
  cases v <;> first | exact h1 | (cases h; done) | skip
  simp only [V.free1, Bool.and_eq_true, List.isEmpty_iff] at h
  obtain ⟨rfl, rfl⟩ := h
  rfl

theorem free1_refs {v : V} {p : Nat → Bool} (h : v.free1 = true) : v.refs p = true := by
  have h1 := free1_refs1 (p := p) h
  cases v <;> first | exact h1 | (cases h; done) | skip
  simp only [V.free1, Bool.and_eq_true, List.isEmpty_iff] at h
  obtain ⟨rfl, rfl⟩ := h
  rfl

theorem free_refs {v : V} {p : Nat → Bool} (h : v.free = true) : v.refs p = true := by
  unfold V.free at h
  split at h
  · rename_i cs
    show cs.all (V.refs2 p) = true
    rw [List.all_eq_true] at h ⊢
    exact fun x hx => free1_refs2 (h x hx)
  · rename_i cs
    show cs.all (V.refs2 p) = true
    rw [List.all_eq_true] at h ⊢
    intro x hx
    have := h x hx
    split at this
    · rename_i ds
      show ds.all (V.refs1 p) = true
      rw [List.all_eq_true] at this ⊢
      exact fun y hy => free1_refs1 (this y hy)
    · exact free1_refs2 this
  · exact free1_refs h

theorem Fn.callT {P : Program} {g : FuncId} {args : List V} {v : V} (f : Fn P g args v) (h : Heap) (nid : Nat) : CallT (CallR P g) args h nid ⟨v, [], [], 0, none⟩ := by
  have hnone : ∀ i, hget (List.replicate nid (none : Option Blk)) i = none := fun i => by
    unfold hget
    rw [List.getElem?_replicate]
    split <;> rfl
  have hap : applyW (List.replicate nid (none : Option Blk) ++ List.replicate 0 none) [] = List.replicate nid none := by simp [applyW]
  refine ⟨rfl, List.replicate nid none, by simp, fun i k hk => (by rw [hnone] at hk; cases hk), fun p hp => (by cases hp), ⟨?_, fun i k hk => (by rw [hnone] at hk; cases hk), free_refs f.vfree, fun i k hk => ?_, fun p hp => (by cases hp)⟩, ⟨fun φ μ B w cargs hB r ha => ?_⟩⟩
  · rw [List.all_eq_true]
    intro x hx
    have := f.free
    unfold allFree at this
    rw [List.all_eq_true] at this
    exact free_refs (this x hx)
  · rw [hap, hnone] at hk; cases hk
  · rw [hap]
    exact (f.callH φ μ B w cargs _ hB r ha).mono fun e w' ⟨φ', cv, h1, h2, h3, h4, h5⟩ => ⟨v, _, φ', μ, cv, h1, ⟨rfl, rfl⟩, h2, h3, h4, h5⟩
end Go.Cx
namespace Go.Cx
open Go.RowKit Go.WideShapes Go.ChangeShapes

/-- What a cell may hold. -/
inductive CS where
  | bool
  | int (k : IntKind)
  | str
  | sl (es : List CS)
instance : Inhabited CS := ⟨.bool⟩

inductive ShOk : CS → V → Prop
  | bool (b : Bool) : ShOk .bool (.bool b)
  | int (k : IntKind) (n : Int) : (Lit.int k n).wf = true → ShOk (.int k) (.int k n)
  | str (s : ByteArray) : s.size ≤ maxLen → ShOk .str (.str s)
  | sl (es : List CS) (ys : List (List V)) : ys.length ≤ maxLen → (∀ i, i < ys.length → (ys.getD i []).length = es.length) →
      (∀ i j, i < ys.length → j < es.length → ShOk (es.getD j .bool) ((ys.getD i []).getD j .undef)) → ShOk (.sl es) (.psl es.length ys .any)

def phiW (w : World) : Phi := ⟨fun b o => (w.cell? ⟨b, o, none⟩).bind fun v => if v.oneCell' = true then some v else none, fun _ => none, fun b o v h => by
  simp only [Option.bind_eq_some_iff] at h
  obtain ⟨u, _, h⟩ := h
  split at h
  · simp only [Option.some.injEq] at h; subst h; assumption
  · cases h⟩

theorem phiW_cell {w : World} {b o : Nat} {v : Value} (h : w.cell? ⟨b, o, none⟩ = some v) (h1 : v.oneCell' = true) : (phiW w).cell b o = some v := by
  simp [phiW, h, h1]

/-- The listed variables hold what is listed. -/
def GlobW (w : World) : Prop := ∀ g cs, globTab g = some cs → Rv (phiW w) mu0 (.iptr cs) (.pointer (some ⟨g, 0, none⟩))

theorem phiW_rel {w : World} (hg : GlobW w) : Rel (phiW w) mu0 w.heap.size [] w := by
  refine ⟨hg, fun b o v h => ?_, fun b n h => (by cases h), fun i j b x y h => (by cases h), fun i b x h => (by cases h), fun i k h => (by cases h)⟩
  simp only [phiW, Option.bind_eq_some_iff] at h
  obtain ⟨u, h1, h⟩ := h
  split at h
  · simp only [Option.some.injEq] at h; subst h; exact h1
  · cases h

inductive Opn (w : World) : List CS → List V → List Value → Prop
  | nil : Opn w [] [] []
  | cons {s : CS} {v : V} {c : Value} {ss : List CS} {vs : List V} {cs : List Value} : ShOk s v → Rv (phiW w) mu0 v c → c.oneCell' = true → Opn w ss vs cs → Opn w (s :: ss) (v :: vs) (c :: cs)

theorem Opn.append {w : World} {s1 s2 : List CS} {v1 v2 : List V} {c1 c2 : List Value} (h : Opn w s1 v1 c1) (g : Opn w s2 v2 c2) : Opn w (s1 ++ s2) (v1 ++ v2) (c1 ++ c2) := by
  induction h with
  | nil => exact g
  | cons a b c _ ih => exact .cons a b c ih

theorem Opn.get {w : World} {ss : List CS} {vs : List V} {cs : List Value} (h : Opn w ss vs cs) : vs.length = ss.length ∧ cs.length = ss.length ∧
    ∀ j, j < ss.length → ShOk (ss.getD j .bool) (vs.getD j .undef) ∧ Rv (phiW w) mu0 (vs.getD j .undef) (cs.getD j Go.undef) ∧ (cs.getD j Go.undef).oneCell' = true := by
  induction h with
  | nil => exact ⟨rfl, rfl, fun j hj => by simp at hj⟩
  | cons a b c _ ih =>
    obtain ⟨l1, l2, ih⟩ := ih
    refine ⟨by simp [l1], by simp [l2], fun j hj => ?_⟩
    cases j with
    | zero => exact ⟨a, b, c⟩
    | succ j => simpa using ih j (by simpa using hj)

def fieldsSh (sh : TypeId → Option (List CS)) (co : TypeId → Nat) : List Field → Nat → Option (List CS)
  | [], _ => some []
  | f :: fs, pos =>
    match sh f.type with
    | some s => if f.offset = pos ∧ co f.type = s.length then (fieldsSh sh co fs (pos + s.length)).map (s ++ ·) else none
    | none => none

def shapeOf (P : Program) : Nat → TypeId → Option (List CS)
  | 0, _ => none
  | m + 1, t =>
    match P.underlying t with
    | some .bool => some [.bool]
    | some (.int k) => some [.int k]
    | some .string => some [.str]
    | some (.slice e) => (match shapeOf P m e with | some es => if P.cellsOf e = es.length ∧ 0 < es.length then some [.sl es] else none | none => none)
    | some (.struct fs) => (match fieldsSh (shapeOf P m) P.cellsOf fs.toList 0 with | some ss => if P.cellsOf t = ss.length then some ss else none | none => none)
    | some (.array n e) => (match shapeOf P m e with | some es => if P.cellsOf e = es.length ∧ P.cellsOf t = n * es.length then some (List.replicate n es).flatten else none | none => none)
    | _ => none

theorem fields_open {w : World} {sh : TypeId → Option (List CS)} {co : TypeId → Nat} {cs : List Value} : ∀ (fl : List Field) (pos : Nat) (ss : List CS), fieldsSh sh co fl pos = some ss →
    (∀ f ∈ fl, ∀ s, sh f.type = some s → ∃ vs, Opn w s vs ((cs.drop f.offset).take (co f.type))) → cs.length = pos + ss.length → ∃ vs, Opn w ss vs (cs.drop pos)
  | [], pos, ss, h, _, hl => by
    simp only [fieldsSh, Option.some.injEq] at h
    subst h
    rw [List.drop_eq_nil_of_le (by rw [hl]; simp)]
    exact ⟨[], .nil⟩
  | f :: fl, pos, ss, h, hf, hl => by
    unfold fieldsSh at h
    split at h
    · rename_i s hs
      split at h
      · rename_i hc
        rw [Option.map_eq_some_iff] at h
        obtain ⟨r, h1, rfl⟩ := h
        obtain ⟨v1, o1⟩ := hf f (by simp) s hs
        obtain ⟨v2, o2⟩ := fields_open fl (pos + s.length) r h1 (fun g hg => hf g (by simp [hg])) (by rw [hl]; simp [Nat.add_assoc])
        rw [hc.1, hc.2] at o1
        refine ⟨v1 ++ v2, ?_⟩
        have := o1.append o2
        rwa [← List.drop_drop, List.take_append_drop] at this
      · cases h
    · cases h

theorem arr_open {w : World} {s : List CS} {cs : List Value} : ∀ (k i : Nat), (∀ j, i ≤ j → j < i + k → ∃ vs, Opn w s vs ((cs.drop (j * s.length)).take s.length)) → cs.length = (i + k) * s.length → ∃ vs, Opn w (List.replicate k s).flatten vs (cs.drop (i * s.length))
  | 0, i, _, hl => by
    rw [List.drop_eq_nil_of_le (by rw [hl]; simp)]
    exact ⟨[], .nil⟩
  | k + 1, i, h, hl => by
    obtain ⟨v1, o1⟩ := h i (Nat.le_refl _) (by omega)
    obtain ⟨v2, o2⟩ := arr_open k (i + 1) (fun j h1 h2 => h j (by omega) (by omega)) (by rw [hl]; congr 1; omega)
    refine ⟨v1 ++ v2, ?_⟩
    have := o1.append o2
    rw [Nat.add_mul, Nat.one_mul, ← List.drop_drop, List.take_append_drop] at this
    rw [List.replicate_succ, List.flatten_cons]
    exact this

theorem list_choice {α : Type} {n : Nat} {p : Nat → α → Prop} (d : α) (h : ∀ i, i < n → ∃ y, p i y) : ∃ ys : List α, ys.length = n ∧ ∀ i, i < n → p i (ys.getD i d) := by
  induction n with
  | zero => exact ⟨[], rfl, fun i hi => by omega⟩
  | succ n ih =>
    obtain ⟨ys, l, hy⟩ := ih fun i hi => h i (by omega)
    obtain ⟨y, hy2⟩ := h n (by omega)
    refine ⟨ys ++ [y], by simp [l], fun i hi => ?_⟩
    rcases Nat.lt_or_ge i n with h' | h'
    · have : (ys ++ [y]).getD i d = ys.getD i d := by simp [List.getElem?_append_left (show i < ys.length by omega)]
      rw [this]; exact hy i h'
    · have hin : i = n := by omega
      subst hin
      have : (ys ++ [y]).getD i d = y := by simp [← l]
      rw [this]; exact hy2

section
variable {H : Type} {enc : TypeId × Value → H} {P : Program} {w : World} {base : Nat} {spare : Nat → Bool} {held : Bool}

theorem open_cells : ∀ (m fuel : Nat) (t : TypeId) (cs : List Value) (x : DataW H × List MemPlace) (ss : List CS), DataW.trod enc P w base spare held fuel t cs = some x → shapeOf P m t = some ss → ∃ vs, Opn w ss vs cs
  | 0, _, _, _, _, _, _, h => by cases h
  | m + 1, fuel, t, cs, x, ss, ht, hs => by
    unfold shapeOf at hs
    split at hs
    · rename_i hu
      obtain ⟨b, rfl, _⟩ := DataW.trod_bool hu ht
      simp only [Option.some.injEq] at hs; subst hs
      exact ⟨[.bool b], .cons (.bool _) (.bool _ _) rfl .nil⟩
    · rename_i k hu
      obtain ⟨n, rfl, _, hw⟩ := DataW.trod_int hu ht
      simp only [Option.some.injEq] at hs; subst hs
      exact ⟨[.int k n], .cons (.int _ _ hw) (.int _ _ _) rfl .nil⟩
    · rename_i hu
      obtain ⟨s, rfl, _, hw⟩ := DataW.trod_string hu ht
      simp only [Option.some.injEq] at hs; subst hs
      exact ⟨[.str s], .cons (.str _ hw) (.str _ _) rfl .nil⟩
    · rename_i e hu
      split at hs
      · rename_i es hes
        split at hs
        · rename_i hc
          simp only [Option.some.injEq] at hs; subst hs
          rcases DataW.trod_slice hu ht with ⟨rfl, _⟩ | ⟨a, len, cap, elems, rest, n, rfl, rfl, _, _, hlc, hcm, hel, hget, _, _⟩
          · exact ⟨[.psl es.length [] .any], .cons (.sl es [] (by simp) (fun i hi => by simp at hi) (fun i j hi => by simp at hi)) (.psl0 _ _ _ _) rfl .nil⟩
          · have hch : ∀ i, i < len → ∃ y : List V, ∃ ci, w.cells? base (a.add (i * P.cellsOf e)) (P.cellsOf e) = some ci ∧ Opn w es y ci := fun i hi => by
              have := hget i hi
              cases hci : w.cells? base (a.add (i * P.cellsOf e)) (P.cellsOf e) with
              | none =>
                rw [hci] at this
                simp only [Option.bind_none] at this
                have := List.getElem?_eq_none_iff.1 this.symm
                omega
              | some ci =>
                rw [hci] at this
                simp only [Option.bind_some] at this
                have hi' : i < elems.length := by omega
                rw [List.getElem?_eq_getElem hi'] at this
                obtain ⟨vs, ho⟩ := open_cells m n e ci _ es this hes
                exact ⟨vs, ci, rfl, ho⟩
            obtain ⟨ys, hl, hy⟩ := list_choice [] hch
            have hsh : ShOk (.sl es) (.psl es.length ys .any) := by
              refine .sl es ys (by omega) (fun i hi => ?_) (fun i j hi hj => ?_)
              · obtain ⟨ci, _, ho⟩ := hy i (by omega)
                exact ho.get.1
              · obtain ⟨ci, _, ho⟩ := hy i (by omega)
                exact (ho.get.2.2 j hj).1
            refine ⟨[.psl es.length ys .any], .cons hsh ?_ rfl .nil⟩
            cases hlen : len with
            | zero =>
              have : ys = [] := List.length_eq_zero_iff.1 (by omega)
              subst this
              exact .psl0 _ _ _ _
            | succ len' =>
              rw [hc.1] at hy
              have hspot : a.spot = none := by
                obtain ⟨ci, hci, ho⟩ := hy 0 (by omega)
                obtain ⟨_, l1, hcell⟩ := World.cells?_some hci
                have := hcell 0 hc.2
                rw [Nat.zero_mul] at this
                simp only [Addr.add, if_true] at this
                rw [List.getElem?_eq_getElem (by omega)] at this
                exact World.cell?_spot this
              obtain ⟨b, off, sp⟩ := a
              simp only at hspot
              subst hspot
              have hadd : ∀ i j, (Addr.add (Addr.add ⟨b, off, none⟩ (i * es.length)) j) = ⟨b, off + i * es.length + j, none⟩ := fun i j => by
                unfold Addr.add
                split <;> split <;> simp_all
              have hcell : ∀ i j, i < ys.length → j < es.length → ∃ ci : List Value, Opn w es (ys.getD i []) ci ∧ w.cell? ⟨b, off + i * es.length + j, none⟩ = some (ci.getD j Go.undef) := fun i j hi hj => by
                obtain ⟨ci, hci, ho⟩ := hy i (by omega)
                obtain ⟨_, l1, hcell⟩ := World.cells?_some hci
                refine ⟨ci, ho, ?_⟩
                rw [← hadd, hcell j hj]
                have : j < ci.length := by omega
                simp [this]
              rw [← hlen, ← hl]
              refine .psl _ _ _ _ b off cap (fun i j => (w.cell? ⟨b, off + i * es.length + j, none⟩).getD Go.undef) (by omega) (fun i hi => ?_) (fun i j hi hj => ?_) (fun i j hi hj => ?_) trivial
              · obtain ⟨ci, _, ho⟩ := hy i (by omega)
                exact ho.get.1
              · obtain ⟨ci, ho, hce⟩ := hcell i j hi hj
                rw [hce]
                exact phiW_cell hce (ho.get.2.2 j hj).2.2
              · obtain ⟨ci, ho, hce⟩ := hcell i j hi hj
                rw [hce]
                exact (ho.get.2.2 j hj).2.1
        · cases hs
      · cases hs
    · rename_i fs hu
      split at hs
      · rename_i ss' hf
        split at hs
        · rename_i hc
          simp only [Option.some.injEq] at hs; subst hs
          obtain ⟨xs, n, rfl, _, hl, hlx, hget⟩ := DataW.trod_struct hu ht
          have := fields_open (w := w) (cs := cs) fs.toList 0 ss' hf (fun f hf s hs => by
            obtain ⟨i, hi, he⟩ := List.getElem_of_mem hf
            have hi' : i < fs.size := by simpa using hi
            have h1 := hget i f (by rw [← he]; simp [hi'])
            rw [List.getElem?_eq_getElem (by omega)] at h1
            exact open_cells m n f.type _ _ s h1 hs) (by rw [hl, hc]; simp)
          simpa using this
        · cases hs
      · cases hs
    · rename_i n e hu
      split at hs
      · rename_i es hes
        split at hs
        · rename_i hc
          simp only [Option.some.injEq] at hs; subst hs
          obtain ⟨xs, k, rfl, _, hl, hlx, hget⟩ := DataW.trod_array hu ht
          have := arr_open (w := w) (s := es) (cs := cs) n 0 (fun j _ hj => by
            have h1 := hget j (by omega)
            rw [List.getElem?_eq_getElem (by omega), hc.1] at h1
            exact open_cells m k e _ _ es h1 hes) (by rw [hl, hc.2]; simp)
          simpa using this
        · cases hs
      · cases hs
    · cases hs

def isAgg (P : Program) (t : TypeId) : Bool :=
  match P.underlying t with
  | some (.struct _) | some (.array _ _) => true
  | _ => false

theorem open_agg {t : TypeId} {v : Value} {d : DataW H} {p : List MemPlace} {b0 : Nat} (m : Nat) {ss : List CS} (hs : shapeOf P m t = some ss) (ha : isAgg P t = true) (hv : Value.okWide P w .any b0 t v) (h : DataW.Trod enc P w base spare held t v d p) :
    ∃ vs : List V, vs.length = ss.length ∧ (∀ j, j < ss.length → ShOk (ss.getD j .bool) (vs.getD j .undef)) ∧ Rv (phiW w) mu0 (.agg vs) v := by
  have hagg : ∃ cs, v = .agg cs := by
    unfold isAgg at ha
    unfold Value.okWide at hv
    split at ha
    · rename_i hu; rw [hu] at hv; exact ⟨_, hv.choose_spec.1⟩
    · rename_i hu; rw [hu] at hv; exact ⟨_, hv.choose_spec.1⟩
    · cases ha
  obtain ⟨cs, rfl⟩ := hagg
  obtain ⟨fuel, hf⟩ := h
  obtain ⟨vs, ho⟩ := open_cells m fuel t _ _ ss hf hs
  obtain ⟨l1, l2, hg⟩ := ho.get
  refine ⟨vs, l1, fun j hj => (hg j hj).1, .agg _ _ _ (by rw [l1, ← l2]; simp [Value.cells]) fun j hj => ?_⟩
  have := (hg j (by omega)).2.1
  simpa [Value.cells, List.getD_eq_getElem?_getD, Array.getD_eq_getD_getElem?] using this

theorem open_one {t : TypeId} {v : Value} {d : DataW H} {p : List MemPlace} {b0 : Nat} (m : Nat) {s : CS} (hs : shapeOf P m t = some [s]) (ha : isAgg P t = false) (hv : Value.okWide P w .any b0 t v) (h : DataW.Trod enc P w base spare held t v d p) :
    ∃ u : V, ShOk s u ∧ Rv (phiW w) mu0 u v := by
  obtain ⟨fuel, hf⟩ := h
  obtain ⟨vs, ho⟩ := open_cells m fuel t _ _ _ hf hs
  generalize hcs : v.cells.toList = vc at ho
  cases ho with
  | cons h1 h2 h3 h4 =>
    rename_i u c vs' cs'
    cases h4
    refine ⟨u, h1, ?_⟩
    have hne : ∀ a, v ≠ .agg a := by
      cases m with
      | zero => cases hs
      | succ m =>
        unfold shapeOf at hs
        unfold isAgg at ha
        split at hs
        · rename_i hu; obtain ⟨_, rfl⟩ := okWide_bool hu hv; exact fun _ h => by cases h
        · rename_i hu; obtain ⟨_, rfl⟩ := okWide_int hu hv; exact fun _ h => by cases h
        · rename_i hu; obtain ⟨_, rfl⟩ := okWide_string hu hv; exact fun _ h => by cases h
        · rename_i hu; obtain ⟨_, _, _, rfl⟩ := okWide_slice hu hv; exact fun _ h => by cases h
        · rename_i hu; rw [hu] at ha; cases ha
        · rename_i hu; rw [hu] at ha; cases ha
        · cases hs
    have : v = c := by
      cases v <;> simp [Value.cells] at hcs <;> first | exact hcs | exact absurd rfl (hne _)
    rw [this]; exact h2
end

theorem CallTo.calls {P : Program} {g : FuncId} {cargs : Array Value} {w : World} {Q : Ending → World → Prop} (h : CallTo P g cargs w Q) (hb : bodyB P g = true) : Calls P g cargs w Q := by
  rcases h with h | ⟨v, h1, _⟩
  · exact h.2
  · rw [callFunc_enter (bodyB_ok hb)] at h1
    cases h1

theorem walk_true {P : Program} {g : FuncId} {W : World} {args : List V} {cargs : Array Value} (hb : bodyB P g = true) (hS : Sem P g args [] fun v _ => v = .bool true) (ha : RvL (phiW W) mu0 args cargs) (hg : GlobW W) :
    Calls P g cargs W fun e W' => e = .returned (.bool true) ∧ Below W.heap.size W W' := by
  refine ((hS.run (phiW W) mu0 W.heap.size W cargs (Nat.le_refl _) (phiW_rel hg) ha).mono ?_).calls hb
  rintro e W' ⟨v, h', φ', μ', cv, rfl, rfl, hv, _, _, hf⟩
  cases hv
  exact ⟨rfl, hf.os, hf.tape, hf.output, hf.size, fun k hk => hf.block k hk fun i x hi => by cases hi⟩

theorem rvl_nil (φ : Phi) (μ : Mu) : RvL φ μ [] #[] := ⟨rfl, fun j => by simp; exact .undef _ _⟩
theorem rvl1 {φ : Phi} {μ : Mu} {a : V} {x : Value} (h : Rv φ μ a x) : RvL φ μ [a] #[x] := ⟨rfl, fun j => by
  match j with
  | 0 => exact h
  | j + 1 => simp; exact .undef _ _⟩
theorem rvl2 {φ : Phi} {μ : Mu} {a b : V} {x y : Value} (h : Rv φ μ a x) (g : Rv φ μ b y) : RvL φ μ [a, b] #[x, y] := ⟨rfl, fun j => by
  match j with
  | 0 => exact h
  | 1 => exact g
  | j + 2 => simp; exact .undef _ _⟩
theorem rvl3 {φ : Phi} {μ : Mu} {a b c : V} {x y z : Value} (h : Rv φ μ a x) (g : Rv φ μ b y) (f : Rv φ μ c z) : RvL φ μ [a, b, c] #[x, y, z] := ⟨rfl, fun j => by
  match j with
  | 0 => exact h
  | 1 => exact g
  | 2 => exact f
  | j + 3 => simp; exact .undef _ _⟩

/-! ### Rows of plain cells, said as rows of plain things -/
theorem rows_of {α : Type} {es : List CS} {f : α → List V} {p : α → Prop} (hf : ∀ y : List V, y.length = es.length → (∀ j, j < es.length → ShOk (es.getD j .bool) (y.getD j .undef)) → ∃ a, y = f a ∧ p a) {v : V} (h : ShOk (.sl es) v) :
    ∃ xs : List α, v = .psl es.length (xs.map f) .any ∧ xs.length ≤ maxLen ∧ ∀ x ∈ xs, p x := by
  cases h with
  | sl _ ys h1 h2 h3 =>
    have key : ∀ l : List (List V), (∀ y ∈ l, ∃ a, y = f a ∧ p a) → ∃ xs : List α, l = xs.map f ∧ ∀ x ∈ xs, p x := by
      intro l
      induction l with
      | nil => exact fun _ => ⟨[], rfl, fun _ h => by cases h⟩
      | cons y l ih =>
        intro hl
        obtain ⟨a, rfl, ha⟩ := hl y (by simp)
        obtain ⟨xs, rfl, hx⟩ := ih fun z hz => hl z (by simp [hz])
        exact ⟨a :: xs, rfl, fun x hx' => by rcases List.mem_cons.1 hx' with rfl | h; exact ha; exact hx x h⟩
    obtain ⟨xs, rfl, hx⟩ := key ys fun y hy => by
      obtain ⟨i, hi, he⟩ := List.getElem_of_mem hy
      have hd : ys.getD i [] = y := by rw [← he]; simp [hi]
      exact hf y (by rw [← hd]; exact h2 i hi) fun j hj => by rw [← hd]; exact h3 i j hi hj
    exact ⟨xs, rfl, by simpa using h1, hx⟩
end Go.Cx
