/- A calculus for calls of the program: canonical values and heaps, and what each operation, loop and call does to them; no condition on the program. -/
import Derived.Test.YtifdekgmoekegaaDoorCx16c
namespace Go.Cx
open Go.RowKit

section
variable {P : Program} {T : Nat → Option TI} {env env' : List V} {h h' : Heap} {Q : X → List V → Heap → Prop}

theorem Wp.mono {c : Code} {Q' : X → List V → Heap → Prop} (hQ : ∀ x e h, Q x e h → Q' x e h) (hk : Wp P T c env h Q) : Wp P T c env h Q' :=
  ⟨fun ρ φ μ B w a hro hB r he => wpIn_mono (hk.run ρ φ μ B w a hro hB r he) fun _ _ _ hp => hp.mono hQ⟩

theorem EnvR.forg {φ : Phi} {μ : Mu} {tmps : Array Value} (he : EnvR φ μ env tmps) (hf : forgE env env') : EnvR φ μ env' tmps :=
  have := forgE_ok (φ := φ) (μ := μ) env env' hf
  ⟨this.1.trans he.size, fun j => this.2 j _ (he.rv j)⟩

theorem Wp.weak {c : Code} (hf : forgE env env') (hk : Wp P T c env' h Q) : Wp P T c env h Q :=
  ⟨fun ρ φ μ B w a hro hB r he => hk.run ρ φ μ B w a hro hB r (he.forg hf)⟩

theorem Wp.seq {x y : Code} (hk : Wp P T x env h fun z e h => match z with | .normal => Wp P T y e h Q | z => Q z e h) : Wp P T (.seq x y) env h Q := by
  refine ⟨fun ρ φ μ B w a hro hB r he => wpIn_seq (wpIn_mono (hk.run ρ φ μ B w a hro hB r he) ?_)⟩
  rintro e a' w' ⟨x, env', h', φ', μ', rfl, hq, he', r', hx, hf, hd⟩
  cases x with
  | normal =>
    exact wpIn_mono (Wp.run hq ρ φ' μ' B w' a' (hro.fr hf) (Nat.le_trans hB hf.size) r' he') fun _ _ _ hp => hp.trans hx hf hd
  | exit id => exact ⟨.exit id, env', h', φ', μ', rfl, hq, he', r', hx, hf, hd⟩
  | ret => exact ⟨.ret, env', h', φ', μ', rfl, hq, he', r', hx, hf, hd⟩

theorem Wp.block {id : Nat} {c : Code} (hk : Wp P T c env h fun x env h => match x with | .exit i => cond (i == id) (Q .normal env h) (Q (.exit i) env h) | x => Q x env h) : Wp P T (.block id c) env h Q := by
  refine ⟨fun ρ φ μ B w a hro hB r he => wpIn_block (wpIn_mono (hk.run ρ φ μ B w a hro hB r he) ?_)⟩
  rintro e a' w' ⟨x, env', h', φ', μ', rfl, hq, he', r', hx, hf, hd⟩
  cases x with
  | normal => exact ⟨.normal, env', h', φ', μ', rfl, hq, he', r', hx, hf, hd⟩
  | exit i =>
    simp only [X.toExit, Exit.inBlock]
    by_cases hi : i = id
    · rw [if_pos hi]
      have : (i == id) = true := by simpa using hi
      simp only [this, cond_true] at hq
      exact ⟨.normal, env', h', φ', μ', rfl, hq, he', r', hx, hf, hd⟩
    · rw [if_neg hi]
      have : (i == id) = false := by simpa using hi
      simp only [this, cond_false] at hq
      exact ⟨.exit i, env', h', φ', μ', rfl, hq, he', r', hx, hf, hd⟩
  | ret => exact ⟨.ret, env', h', φ', μ', rfl, hq, he', r', hx, hf, hd⟩

theorem Wp.cond {b : Bool} {c : Operand} {x y : Code} (hc : evE env c = .bool b) (ht : b = true → Wp P T x env h Q) (hf : b = false → Wp P T y env h Q) : Wp P T (.cond c x y) env h Q := by
  refine ⟨fun ρ φ μ B w a hro hB r he => ?_⟩
  have hr := he.eval r c
  rw [hc] at hr
  generalize hcc : a.eval c = cc at hr
  cases hr
  refine wpIn_cond hcc ?_
  cases b with
  | true => exact (ht rfl).run ρ φ μ B w a hro hB r he
  | false => exact (hf rfl).run ρ φ μ B w a hro hB r he

/-- Values that are still wanted; all others are forgotten. -/
def keepE : List Bool → List V → List V
  | _, [] => []
  | [], _ :: xs => .undef :: keepE [] xs
  | true :: bs, x :: xs => x :: keepE bs xs
  | false :: bs, _ :: xs => .undef :: keepE bs xs
theorem keepE_forg : ∀ (bs : List Bool) (e : List V), forgE e (keepE bs e)
  | [], [] => trivial
  | _ :: _, [] => trivial
  | [], _ :: xs => ⟨.inr rfl, keepE_forg [] xs⟩
  | true :: bs, _ :: xs => ⟨.inl rfl, keepE_forg bs xs⟩
  | false :: bs, _ :: xs => ⟨.inr rfl, keepE_forg bs xs⟩

theorem Sem.of_Wp (hT : TOk P T) {g : FuncId} {fn : Func} {c : Code} {args : List V} {K : V → Heap → Prop} (hf : P.funcs[g]? = some fn) (hb : fn.body = some c) (hn : (fn.name == "runtime.NumGoroutine") = false)
    (hk : forceL (args ++ List.replicate (fn.ntmps - args.length) .undef) fun env => Wp P T c env h fun x env' h' => match x with | .exit _ => False | _ => retP T fn.results.toList env' h' K) : Sem P g args h K := by
  refine ⟨fun φ μ B w cargs hB r ha => .inl ⟨callFunc_enter ⟨fn, hf, by rw [hb]; rfl, hn⟩, ?_⟩⟩
  rw [forceL_eq] at hk
  exact sem_body hT hf hb (hk.run none φ μ B w { tmps := cargs ++ Array.replicate (fn.ntmps - cargs.size) Go.undef, defers := [] } (RoOk.none w) hB r (envR_start ha _))
end
end Go.Cx
