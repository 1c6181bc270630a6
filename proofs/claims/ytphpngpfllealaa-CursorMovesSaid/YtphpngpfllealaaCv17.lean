/- A calculus for calls of the program: canonical values and heaps, and what each operation, loop and call does to them; no condition on the program. -/
import Derived.Test.YtphpngpfllealaaCv16
namespace Go.Cv
open Go.RowKit

/-! ### The same, said of the machine itself: it may be weakened anywhere -/
structure Wp (P : Program) (T : Nat → Option TI) (c : Code) (env : List V) (h : Heap) (Q : X → List V → Heap → Prop) : Prop where
  run : ∀ (φ : Phi) (μ : Mu) (B : Nat) (w : World) (a : Act), B ≤ w.heap.size → Rel φ μ B h w → EnvR φ μ env a.tmps → c.wp P (PostC φ μ B w a.defers Q) a w

section
variable {P : Program} {T : Nat → Option TI} {env env' : List V} {h h' : Heap} {Q : X → List V → Heap → Prop}

theorem Wp.of (hT : TOk P T) {c : Code} (hk : wpC P T c env h Q) : Wp P T c env h Q :=
  ⟨fun φ μ B w a hB r he => wpC_ok hT c env h Q φ μ B w a hB r he hk⟩

theorem Wp.mono {c : Code} {Q' : X → List V → Heap → Prop} (hQ : ∀ x e h, Q x e h → Q' x e h) (hk : Wp P T c env h Q) : Wp P T c env h Q' :=
  ⟨fun φ μ B w a hB r he => wp_mono (hk.run φ μ B w a hB r he) fun _ _ _ ⟨x, env', h', φ', μ', e, hq, rest⟩ => ⟨x, env', h', φ', μ', e, hQ _ _ _ hq, rest⟩⟩

theorem EnvR.forg {φ : Phi} {μ : Mu} {tmps : Array Value} (he : EnvR φ μ env tmps) (hf : forgE env env') : EnvR φ μ env' tmps :=
  have := forgE_ok (φ := φ) (μ := μ) env env' hf
  ⟨this.1.trans he.size, fun j => this.2 j _ (he.rv j)⟩

theorem Wp.weak {c : Code} (hf : forgE env env') (hk : Wp P T c env' h Q) : Wp P T c env h Q :=
  ⟨fun φ μ B w a hB r he => hk.run φ μ B w a hB r (he.forg hf)⟩

theorem Wp.seq {x y : Code} (hk : Wp P T x env h fun z e h => match z with | .normal => Wp P T y e h Q | z => Q z e h) : Wp P T (.seq x y) env h Q := by
  refine ⟨fun φ μ B w a hB r he => wp_seq (wp_mono (hk.run φ μ B w a hB r he) ?_)⟩
  rintro e a' w' ⟨x, env', h', φ', μ', rfl, hq, he', r', hx, hf, hd⟩
  cases x with
  | normal =>
    have := Wp.run hq φ' μ' B w' a' (Nat.le_trans hB hf.size) r' he'
    rw [hd] at this
    exact wp_mono this fun _ _ _ hp => hp.trans hx hf
  | exit id => exact ⟨.exit id, env', h', φ', μ', rfl, hq, he', r', hx, hf, hd⟩
  | ret => exact ⟨.ret, env', h', φ', μ', rfl, hq, he', r', hx, hf, hd⟩

theorem Wp.block {id : Nat} {c : Code} (hk : Wp P T c env h fun x env h => match x with | .exit i => cond (i == id) (Q .normal env h) (Q (.exit i) env h) | x => Q x env h) : Wp P T (.block id c) env h Q := by
  refine ⟨fun φ μ B w a hB r he => wp_block (wp_mono (hk.run φ μ B w a hB r he) ?_)⟩
  rintro e a' w' ⟨x, env', h', φ', μ', rfl, hq, he', r', hx, hf, hd⟩
  cases x with
  | normal => exact ⟨.normal, env', h', φ', μ', rfl, hq, he', r', hx, hf, hd⟩
  | exit i =>
    simp only [X.toExit, Exit.inBlock]
    by_cases hi : i = id
    · rw [if_pos hi]
      have : (i == id) = true := by simpa using hi
      simp only [this, cond_true] at hq
      exact ⟨.normal, env', h', φ', μ', rfl, hq, he', r', hx, hf, hd⟩
    · rw [if_neg hi]
      have : (i == id) = false := by simpa using hi
      simp only [this, cond_false] at hq
      exact ⟨.exit i, env', h', φ', μ', rfl, hq, he', r', hx, hf, hd⟩
  | ret => exact ⟨.ret, env', h', φ', μ', rfl, hq, he', r', hx, hf, hd⟩

theorem Wp.cond {b : Bool} {c : Operand} {x y : Code} (hc : evE env c = .bool b) (ht : b = true → Wp P T x env h Q) (hf : b = false → Wp P T y env h Q) : Wp P T (.cond c x y) env h Q := by
  refine ⟨fun φ μ B w a hB r he => ?_⟩
  have hr := he.eval c
  rw [hc] at hr
  generalize hcc : a.eval c = cc at hr
  cases hr
  refine wp_cond hcc ?_
  cases b with
  | true => exact (ht rfl).run φ μ B w a hB r he
  | false => exact (hf rfl).run φ μ B w a hB r he

/-- Values that are still wanted; all others are forgotten. -/
def keepE : List Bool → List V → List V
  | _, [] => []
  | [], _ :: xs => .undef :: keepE [] xs
  | true :: bs, x :: xs => x :: keepE bs xs
  | false :: bs, _ :: xs => .undef :: keepE bs xs
theorem keepE_forg : ∀ (bs : List Bool) (e : List V), forgE e (keepE bs e)
  | [], [] => trivial
  | _ :: _, [] => trivial
  | [], _ :: xs => ⟨.inr rfl, keepE_forg [] xs⟩
  | true :: bs, _ :: xs => ⟨.inl rfl, keepE_forg bs xs⟩
  | false :: bs, _ :: xs => ⟨.inr rfl, keepE_forg bs xs⟩

/-- A part that is run to its end, and what is still wanted then. -/
theorem Wp.run_seq (hT : TOk P T) (hm : P.follows .mixedOrders = true) (hn : namesB P = true) (fuel n : Nat) (keep : List Bool) {x y : Code}
    (hk : wpE (callF P T fuel n) T fuel x env h (fun z e h => match z with | .normal => some (.normal, keepE keep e, h) | _ => none) = some (.normal, env', h')) (hy : Wp P T y env' h' Q) : Wp P T (.seq x y) env h Q := by
  refine .seq ((Wp.of hT (wpE_ok hT hm (callF_ok hT hm hn n) x env h _ hk)).mono fun z e h1 hz => ?_)
  cases z with
  | normal =>
    simp only [Option.some.injEq, Prod.mk.injEq, true_and] at hz
    obtain ⟨rfl, rfl⟩ := hz
    exact hy.weak (keepE_forg _ _)
  | exit id => cases hz
  | ret => cases hz

theorem Sem.of_Wp (hT : TOk P T) {g : FuncId} {fn : Func} {c : Code} {args : List V} {K : V → Heap → Prop} (hf : P.funcs[g]? = some fn) (hb : fn.body = some c) (hn : (fn.name == "runtime.NumGoroutine") = false)
    (hk : forceL (args ++ List.replicate (fn.ntmps - args.length) .undef) fun env => Wp P T c env h fun x env' h' => match x with | .exit _ => False | _ => retP T fn.results.toList env' h' K) : Sem P g args h K := by
  refine ⟨⟨fn, hf, by rw [hb]; rfl, hn⟩, fun φ μ B w cargs hB r ha => ?_⟩
  rw [forceL_eq] at hk
  refine calls_of_wp hf hb ?_
  have he : EnvR φ μ (args ++ List.replicate (fn.ntmps - args.length) .undef) (cargs ++ Array.replicate (fn.ntmps - cargs.size) Go.undef) := by
    refine ⟨by simp [ha.1], fun j => ?_⟩
    have l1 := ha.1
    by_cases hj : j < args.length
    · have e1 : (args ++ List.replicate (fn.ntmps - args.length) V.undef).getD j V.undef = args.getD j V.undef := by
        rw [List.getD_eq_getElem?_getD, List.getElem?_append_left hj, ← List.getD_eq_getElem?_getD]
      have e2 : (cargs ++ Array.replicate (fn.ntmps - cargs.size) Go.undef).getD j Go.undef = cargs.getD j Go.undef := by
        have : j < cargs.size := by omega
        simp [Array.getD_eq_getD_getElem?, Array.getElem?_append, this]
      rw [e1, e2]; exact ha.2 j
    · have e1 : (args ++ List.replicate (fn.ntmps - args.length) V.undef).getD j .undef = .undef := by
        rw [List.getD_eq_getElem?_getD, List.getElem?_append_right (Nat.le_of_not_lt hj)]
        simp only [List.getElem?_replicate]
        split <;> rfl
      rw [e1]; exact .undef _ _
  refine wp_mono (hk.run φ μ B w _ hB r he) ?_
  rintro e a' w' ⟨x, env', h', φ', μ', rfl, hq, he', r', hx, hf', hd⟩
  have fin : retP T fn.results.toList env' h' K → a'.defers = [] ∧ ∃ v, (results fn a'.tmps).run P w' = .ok v w' ∧ ∃ v' h' φ' μ' cv, (Ending.returned v) = .returned cv ∧ K v' h' ∧ Rv φ' μ' v' cv ∧ Rel φ' μ' B h' w' ∧ Ext φ μ w φ' μ' ∧ Fr μ w w' := fun hr => by
    obtain ⟨v, cv, g1, g2, g3⟩ := retP_ok hT r' he' hr
    exact ⟨hd, cv, g1, v, h', φ', μ', cv, rfl, g2, g3, r', hx, hf'⟩
  cases x with
  | normal => exact fin hq
  | exit id => cases hq
  | ret => exact fin hq
end
end Go.Cv
