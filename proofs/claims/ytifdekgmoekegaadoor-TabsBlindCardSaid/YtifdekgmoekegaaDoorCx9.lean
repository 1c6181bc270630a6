/- A calculus for calls of the program: canonical values and heaps, and what each operation, loop and call does to them; no condition on the program. -/
import Derived.Test.YtifdekgmoekegaaDoorCx8
namespace Go.Cx
open Go.RowKit

theorem RoundP.mono {P : Program} {id : Nat} {args : List V} {h : Heap} {K K' : V → Heap → Prop} (hK : ∀ v h', K v h' → K' v h') (k : RoundP P id args h K) : RoundP P id args h K' :=
  ⟨fun φ μ B w cargs b hB r ha hb => let ⟨f, tmps, as, bo, hy, hr⟩ := k.run φ μ B w cargs b hB r ha hb; ⟨f, tmps, as, bo, hy, hr.mono fun _ _ hq => hq.mono hK⟩⟩

theorem cond_mono {b : Bool} {X X' : Prop} (h : X → X') (hk : cond b X False) : cond b X' False := by
  cases b
  · exact hk
  · exact h hk
theorem opN_mono {P : Program} {T : Nat → Option TI} {md : Bool} {ev : Operand → V} {h : Heap} {K K' : V → Heap → Prop} (hK : ∀ v h', K v h' → K' v h') (op : Op) (hk : opN P T md ev h K op) : opN P T md ev h K' op := by
  unfold opN at hk ⊢
  rw [natL_eq] at hk ⊢
  split at hk
  · exact cond_mono (hK _ _) hk
  · exact hk.elim
theorem nextP_mono {x : V} {h : Heap} {K K' : V → Heap → Prop} (hK : ∀ v h', K v h' → K' v h') (hk : nextP x h K) : nextP x h K' := by
  unfold nextP at hk ⊢
  split at hk
  · split at hk
    · split at hk
      · refine cond_mono (fun hk => ?_) hk
        split at hk
        · exact hK _ _ hk
        · exact fun e he => hK _ _ (hk e he)
      · exact hk.elim
    · exact hk.elim
  · exact hk.elim

theorem opY_mono {P : Program} {T : Nat → Option TI} {md : Bool} {ev : Operand → V} {h : Heap} {K K' : V → Heap → Prop} (hK : ∀ v h', K v h' → K' v h') (op : Op) (hk : opY P T md ev h K op) : opY P T md ev h K' op := by
  cases op
  case call c =>
    simp only [opY] at hk ⊢
    split at hk
    · split at hk
      · simp only [fl2_eq] at hk ⊢
        exact hk.mono hK
      · simp only [fl2_eq] at hk ⊢
        exact hk.mono hK
      · exact hk.elim
    · exact hk.elim
    · exact opN_mono hK _ hk
  case next it b =>
    cases b
    · exact nextP_mono hK hk
    · exact opN_mono hK _ hk
  case indexAddr t x i =>
    simp only [opY] at hk ⊢
    split at hk
    · obtain ⟨cs, h1, h2⟩ := hk
      exact ⟨cs, h1, cond_mono (hK _ _) h2⟩
    · exact opN_mono hK _ hk
  all_goals (simp only [opY] at hk ⊢; exact opN_mono hK _ hk)

theorem regP_mono {P : Program} {T : Nat → Option TI} {md : Bool} {all : List Oper} {K K' : List V → Heap → Prop} (hK : ∀ e h, K e h → K' e h) : ∀ (l : List Oper) (env : List V) (h : Heap), regP P T md all l env h K → regP P T md all l env h K'
  | [], env, h, hk => hK _ _ hk
  | o :: rest, env, h, hk => by
    rw [regP_cons] at hk ⊢
    unfold stepP at hk ⊢
    refine guardN_mono (fun e ho => opY_mono (fun v h' hv => ?_) o.op ho) (fun e hs => ?_) hk
    · simp only [V.force_eq, forceL_eq, forceH_eq] at hv ⊢
      exact regP_mono hK rest _ _ hv
    · simp only [forceL_eq] at hs ⊢
      exact regP_mono hK rest _ _ hs

theorem wpC_mono {P : Program} {T : Nat → Option TI} {md : Nat → Bool} (c : Code) : ∀ (env : List V) (h : Heap) (Q Q' : X → List V → Heap → Prop), (∀ x e h, Q x e h → Q' x e h) → wpC P T md c env h Q → wpC P T md c env h Q' := by
  induction c with
  | skip => intro env h Q Q' hQ hk; exact hQ _ _ _ hk
  | region id ops draw =>
    intro env h Q Q' hQ hk
    replace hk : forceL ops.toList fun l => cond draw (DrawP P T l env h (Q .normal)) (regP P T (md id) l l env h (Q .normal)) := hk
    show forceL ops.toList fun l => cond draw (DrawP P T l env h (Q' .normal)) (regP P T (md id) l l env h (Q' .normal))
    rw [forceL_eq] at hk ⊢
    cases draw with
    | true => exact ⟨fun ρ φ μ B w a id hro hB r he => wpIn_mono (DrawP.run hk ρ φ μ B w a id hro hB r he) fun e a' w' ⟨env', h', φ', μ', e1, e2, rest⟩ => ⟨env', h', φ', μ', e1, hQ _ _ _ e2, rest⟩⟩
    | false => exact regP_mono (fun e h hq => hQ _ _ _ hq) _ _ _ hk
  | seq x y ihx ihy =>
    intro env h Q Q' hQ hk
    refine ihx env h _ _ (fun x e h hq => ?_) hk
    cases x with
    | normal => exact ihy e h Q Q' hQ hq
    | exit id => exact hQ _ _ _ hq
    | ret => exact hQ _ _ _ hq
  | cond c x y ihx ihy =>
    intro env h Q Q' hQ hk
    replace hk : (match evE env c with | .bool t => BCase t (wpC P T md x env h Q) (wpC P T md y env h Q) | _ => False) := hk
    show (match evE env c with | .bool t => BCase t (wpC P T md x env h Q') (wpC P T md y env h Q') | _ => False)
    split at hk
    · exact ⟨fun e => ihx env h Q Q' hQ (hk.1 e), fun e => ihy env h Q Q' hQ (hk.2 e)⟩
    · exact hk.elim
  | block id c ih =>
    intro env h Q Q' hQ hk
    refine ih env h _ _ (fun x e h hq => ?_) hk
    cases x with
    | normal => exact hQ _ _ _ hq
    | exit i =>
      simp only at hq ⊢
      cases hi : (i == id) with
      | true => rw [hi] at hq; exact hQ _ _ _ hq
      | false => rw [hi] at hq; exact hQ _ _ _ hq
    | ret => exact hQ _ _ _ hq
  | loop c ih =>
    intro env h Q Q' hQ hk
    refine ⟨fun R hR => LoopP.lfp hk R fun env1 h1 env2 h2 hf hb => hR env1 h1 env2 h2 hf (ih env2 h2 _ _ (fun x e h hq => ?_) hb)⟩
    cases x with
    | normal => exact hq
    | exit id => exact hQ _ _ _ hq
    | ret => exact hQ _ _ _ hq
  | exit id => intro env h Q Q' hQ hk; exact hQ _ _ _ hk
  | ret => intro env h Q Q' hQ hk; exact hQ _ _ _ hk
  | rangeFunc => intro env h Q Q' hQ hk; exact ⟨fun ρ φ μ B w a hro hB r he => wpIn_mono (RangeP.run hk ρ φ μ B w a hro hB r he) fun _ _ _ hp => hp.mono hQ⟩
  | scope => intro env h Q Q' hQ hk; cases hk
  | label => intro env h Q Q' hQ hk; cases hk
  | goto => intro env h Q Q' hQ hk; cases hk
  | refuse => intro env h Q Q' hQ hk; cases hk

theorem forgE_refl : ∀ (e : List V), forgE e e
  | [] => trivial
  | _ :: xs => ⟨.inl rfl, forgE_refl xs⟩

/-- A loop with an invariant and a measure. -/
theorem LoopP.inv {P : Program} {T : Nat → Option TI} {md : Nat → Bool} {c : Code} {body : WP} {m0 : Nat} {env : List V} {h : Heap} {Q : X → List V → Heap → Prop} (I : Nat → List V → Heap → Prop) (n : Nat) (start : ∃ env' h', Forg m0 env h env' h' ∧ I n env' h')
    (round : ∀ k env' h', I k env' h' → body env' h' fun x env1 h1 => match x with | .normal => ∃ k' env2 h2, k' < k ∧ Forg m0 env1 h1 env2 h2 ∧ I k' env2 h2 | x => Q x env1 h1) (hb : body = wpC P T md c := by rfl) : LoopP P T c body m0 env h Q := by
  subst hb
  refine ⟨fun R hR => ?_⟩
  have key : ∀ k env1 h1, (∃ env2 h2, Forg m0 env1 h1 env2 h2 ∧ I k env2 h2) → R env1 h1 := by
    intro k
    induction k using Nat.strongRecOn with
    | _ k ih =>
      rintro env1 h1 ⟨env2, h2, hf, hi⟩
      refine hR env1 h1 env2 h2 hf (wpC_mono c _ _ _ _ (fun x e h hq => ?_) (round k env2 h2 hi))
      cases x with
      | normal =>
        obtain ⟨k', env3, h3, hlt, hf', hi'⟩ := hq
        exact ih k' hlt e h ⟨env3, h3, hf', hi'⟩
      | exit id => exact hq
      | ret => exact hq
  exact key n env h start

/-- One round walked out. -/
theorem LoopP.unroll {P : Program} {T : Nat → Option TI} {md : Nat → Bool} {c : Code} {body : WP} {m0 : Nat} {env : List V} {h : Heap} {Q : X → List V → Heap → Prop} (hk : body env h fun x env1 h1 => match x with | .normal => LoopP P T c body m0 env1 h1 Q | x => Q x env1 h1) (hb : body = wpC P T md c := by rfl) : LoopP P T c body m0 env h Q := by
  subst hb
  refine ⟨fun R hR => hR env h env h (.same (forgE_refl _) rfl) (wpC_mono c _ _ _ _ (fun x e h hq => ?_) hk)⟩
  cases x with
  | normal => exact LoopP.lfp hq R hR
  | exit id => exact hq
  | ret => exact hq

/-! ### Functions that only compute -/
def allFree (vs : List V) : Bool := vs.all V.free

/-- Called with these, it hands back that, and leaves all as it was. -/
structure Fn (P : Program) (g : FuncId) (args : List V) (v : V) : Prop where
  free : allFree args = true
  vfree : v.free = true
  run : Sem P g args [] fun v' _ => v' = v

theorem Rel.empty {φ : Phi} {μ : Mu} {B : Nat} {h : Heap} {w : World} (r : Rel φ μ B h w) : Rel φ mu0 B [] w :=
  ⟨r.glob, r.cell, r.size, fun i j b x y hi => (by cases hi), fun i b x hi => (by cases hi), fun i k hk => (by cases hk)⟩

theorem Fn.callH {P : Program} {g : FuncId} {args : List V} {v : V} (f : Fn P g args v) (φ : Phi) (μ : Mu) (B : Nat) (w : World) (cargs : Array Value) (h : Heap) (hB : B ≤ w.heap.size) (r : Rel φ μ B h w) (ha : RvL φ μ args cargs) :
    CallTo P g cargs w fun e w' => ∃ φ' cv, e = .returned cv ∧ Rv φ' μ v cv ∧ Rel φ' μ B h w' ∧ Ext φ μ w φ' μ ∧ Fr μ w w' := by
  have ha0 : RvL φ mu0 args cargs := ⟨ha.1, fun j => by
    by_cases hj : j < args.length
    · exact free_rv (ha.2 j) (all_getD f.free hj) mu0
    · have : args.getD j .undef = .undef := by simp [List.getElem?_eq_none (Nat.le_of_not_lt hj)]
      rw [this]; exact .undef _ _⟩
  refine (f.run.run φ mu0 B w cargs hB r.empty ha0).mono fun e w' ⟨v', h', φ', μ', cv, he, hv, hrv, hr, hx, hf⟩ => ?_
  subst hv
  have hsame : ∀ k, k < w.heap.size → w'.heap[k]? = w.heap[k]? := fun k hk => hf.block k hk (fun i x hi => by cases hi)
  have hr' : Rel φ' μ B h w' := by
    refine ⟨hr.glob, hr.cell, hr.size, r.inj, fun i b x hi => ?_, fun i k hk => ?_⟩
    · have := r.dom i b x hi; have := hf.size; exact ⟨by omega, by omega, by omega⟩
    · obtain ⟨b, x, h1, h2⟩ := r.blk i k hk
      have hb := (r.dom i b x h1).2.1
      refine ⟨b, x, h1, h2.mono hx.phi (Mu.le_refl _) (hsame b hb) (fun o u hu => ?_)⟩
      rcases hx.cells b o u hu with h' | h' | ⟨i, y, h'⟩
      · exact h'
      · omega
      · cases h'
  exact ⟨φ', cv, he, free_rv hrv f.vfree μ, hr', ⟨hx.phi, Mu.le_refl _, fun i b x hi => .inl ⟨_, hi⟩, fun b o v hv => by
    rcases hx.cells b o v hv with h' | h' | ⟨i, y, h'⟩
    · exact .inl h'
    · exact .inr (.inl h')
    · cases h'⟩, ⟨hf.os, hf.tape, hf.output, hf.size, fun k hk _ => hsame k hk, hf.loops⟩⟩

theorem Fn.sem {P : Program} {g : FuncId} {args : List V} {v : V} (f : Fn P g args v) (h : Heap) {K : V → Heap → Prop} (hk : K v h) : Sem P g args h K :=
  ⟨fun φ μ B w cargs hB r ha => (f.callH φ μ B w cargs h hB r ha).mono fun _ _ ⟨φ', cv, h1, h2, h3, h4, h5⟩ => ⟨v, h, φ', μ, cv, h1, hk, h2, h3, h4, h5⟩⟩

theorem Fn.of_body {P : Program} {T : Nat → Option TI} (hT : TOk P T) (md : Nat → Bool) {g : FuncId} {fn : Func} {c : Code} {args : List V} {v : V} (hf : P.funcs[g]? = some fn) (hb : fn.body = some c) (hn : (fn.name == "runtime.NumGoroutine") = false)
    (hfree : allFree args = true) (hv : v.free = true) (hk : bodyP P T md fn c args [] fun v' _ => v' = v) : Fn P g args v :=
  ⟨hfree, hv, Sem.of_body hT md hf hb hn hk⟩

/-- The function that stands for itself. -/
theorem Sem.noEscape {P : Program} {g : FuncId} {fn : Func} {v : V} {h : Heap} {K : V → Heap → Prop} (hf : P.funcs[g]? = some fn) (hb : fn.body = none) (hn : fn.name = "internal/abi.NoEscape") (hx : Extern.findNext fn = none) (hy : Extern.find fn = some Extern.AbiNoEscape.same) (hk : K v h) : Sem P g [v] h K := by
  refine ⟨fun φ μ B w cargs hB r ha => .inr ?_⟩
  have hs : cargs.size = 1 := by rw [← ha.1]; rfl
  have hc : cargs = #[cargs.getD 0 Go.undef] := by
    apply Array.ext
    · simp [hs]
    · intro i h1 h2
      have : i = 0 := by omega
      subst this
      simp [h1]
  refine ⟨cargs.getD 0 Go.undef, ?_, v, h, φ, μ, _, rfl, hk, ha.2 0, r, Ext.refl _ _ _, Fr.refl _ _⟩
  have hne : (fn.name == "runtime.NumGoroutine") = false := by rw [hn]; decide
  have hbn : fn.body.isNone = true := by rw [hb]; rfl
  rw [hc]
  have hm : ∀ m, (mark m).run P w = .ok () w := fun m => rfl
  have hne' : fn.name ≠ "runtime.NumGoroutine" := by rw [hn]; decide
  simp [callFunc, hf, hne', hb, hx, hy, hm, Lib.run_noEscape]
end Go.Cx
