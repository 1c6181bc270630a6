/- A calculus for calls of the program: canonical values and heaps, and what each operation, loop and call does to them; no condition on the program. -/
import Derived.Test.YtadgjigabechnaaCx16c
namespace Go.Cx
open Go.RowKit

section
variable {P : Program} {T : Nat → Option TI} {env env' : List V} {h h' : Heap} {Q : X → List V → Heap → Prop}

theorem Wp.mono {c : Code} {Q' : X → List V → Heap → Prop} (hQ : ∀ x e h, Q x e h → Q' x e h) (hk : Wp P T c env h Q) : Wp P T c env h Q' :=
  ⟨fun ρ φ μ B w a hro hB r he => wpIn_mono (hk.run ρ φ μ B w a hro hB r he) fun _ _ _ hp => hp.mono hQ⟩

theorem EnvR.forg {φ : Phi} {μ : Mu} {tmps : Array Value} (he : EnvR φ μ env tmps) (hf : forgE env env') : EnvR φ μ env' tmps :=
  have := forgE_ok (φ := φ) (μ := μ) env env' hf
  ⟨this.1.trans he.size, fun j => this.2 j _ (he.rv j)⟩

theorem Wp.weak {c : Code} (hf : forgE env env') (hk : Wp P T c env' h Q) : Wp P T c env h Q :=
  ⟨fun ρ φ μ B w a hro hB r he => hk.run ρ φ μ B w a hro hB r (he.forg hf)⟩

theorem Wp.seq {x y : Code} (hk : Wp P T x env h fun z e h => match z with | .normal => Wp P T y e h Q | z => Q z e h) : Wp P T (.seq x y) env h Q := by
  refine ⟨fun ρ φ μ B w a hro hB r he => wpIn_seq (wpIn_mono (hk.run ρ φ μ B w a hro hB r he) ?_)⟩
  rintro e a' w' ⟨x, env', h', φ', μ', rfl, hq, he', r', hx, hf, hd⟩
  cases x with
  | normal =>
    exact wpIn_mono (Wp.run hq ρ φ' μ' B w' a' (hro.fr hf) (Nat.le_trans hB hf.size) r' he') fun _ _ _ hp => hp.trans hx hf hd
  | exit id => exact ⟨.exit id, env', h', φ', μ', rfl, hq, he', r', hx, hf, hd⟩
  | ret => exact ⟨.ret, env', h', φ', μ', rfl, hq, he', r', hx, hf, hd⟩

theorem Wp.block {id : Nat} {c : Code} (hk : Wp P T c env h fun x env h => match x with | .exit i => cond (i == id) (Q .normal env h) (Q (.exit i) env h) | x => Q x env h) : Wp P T (.block id c) env h Q := by
  refine ⟨fun ρ φ μ B w a hro hB r he => wpIn_block (wpIn_mono (hk.run ρ φ μ B w a hro hB r he) ?_)⟩
  rintro e a' w' ⟨x, env', h', φ', μ', rfl, hq, he', r', hx, hf, hd⟩
  cases x with
  | normal => exact ⟨.normal, env', h', φ', μ', rfl, hq, he', r', hx, hf, hd⟩
  | exit i =>
    simp only [X.toExit, Exit.inBlock]
    by_cases hi : i = id
    · rw [if_pos hi]
      have : (i == id) = true := by simpa using hi
      simp only [this, cond_true] at hq
      exact ⟨.normal, env', h', φ', μ', rfl, hq, he', r', hx, hf, hd⟩
    · rw [if_neg hi]
      have : (i == id) = false := by simpa using hi
      simp only [this, cond_false] at hq
      exact ⟨.exit i, env', h', φ', μ', rfl, hq, he', r', hx, hf, hd⟩
  | ret => exact ⟨.ret, env', h', φ', μ', rfl, hq, he', r', hx, hf, hd⟩

theorem Wp.cond {b : Bool} {c : Operand} {x y : Code} (hc : evE env c = .bool b) (ht : b = true → Wp P T x env h Q) (hf : b = false → Wp P T y env h Q) : Wp P T (.cond c x y) env h Q := by
  refine ⟨fun ρ φ μ B w a hro hB r he => ?_⟩
  have hr := he.eval r c
  rw [hc] at hr
  generalize hcc : a.eval c = cc at hr
  cases hr
  refine wpIn_cond hcc ?_
  cases b with
  | true => exact (ht rfl).run ρ φ μ B w a hro hB r he
  | false => exact (hf rfl).run ρ φ μ B w a hro hB r he

/-- Values that are still wanted; all others are forgotten. -/
def keepE : List Bool → List V → List V
  | _, [] => []
  | [], _ :: xs => .undef :: keepE [] xs
  | true :: bs, x :: xs => x :: keepE bs xs
  | false :: bs, _ :: xs => .undef :: keepE bs xs
theorem keepE_forg : ∀ (bs : List Bool) (e : List V), forgE e (keepE bs e)
  | [], [] => trivial
  | _ :: _, [] => trivial
  | [], _ :: xs => ⟨.inr rfl, keepE_forg [] xs⟩
  | true :: bs, _ :: xs => ⟨.inl rfl, keepE_forg bs xs⟩
  | false :: bs, _ :: xs => ⟨.inr rfl, keepE_forg bs xs⟩

theorem Sem.of_Wp (hT : TOk P T) {g : FuncId} {fn : Func} {c : Code} {args : List V} {K : V → Heap → Prop} (hf : P.funcs[g]? = some fn) (hb : fn.body = some c) (hn : (fn.name == "runtime.NumGoroutine") = false)
    (hk : forceL (args ++ List.replicate (fn.ntmps - args.length) .undef) fun env => Wp P T c env h fun x env' h' => match x with | .exit _ => False | _ => retP T fn.results.toList env' h' K) : Sem P g args h K := by
  refine ⟨fun φ μ B w cargs hB r ha => .inl ⟨callFunc_enter ⟨fn, hf, by rw [hb]; rfl, hn⟩, ?_⟩⟩
  rw [forceL_eq] at hk
  exact sem_body hT hf hb (hk.run none φ μ B w { tmps := cargs ++ Array.replicate (fn.ntmps - cargs.size) Go.undef, defers := [] } (RoOk.none w) hB r (envR_start ha _))
end
end Go.Cx
namespace Go.Cx
open Go.RowKit

/-! ### Loops, with what is forgotten between rounds -/
def forgT1 (x y : V) : Prop := y = x ∨ y = .undef ∨ (∃ sz xs t, x = .psl sz xs t ∧ y = .psl sz xs .any) ∨ (x = .nils ∧ ∃ sz, y = .psl sz [] .any)
theorem forgT1_ok {φ : Phi} {μ : Mu} {x y : V} {c : Value} (h : Rv φ μ x c) (hf : forgT1 x y) : Rv φ μ y c := by
  rcases hf with rfl | rfl | ⟨sz, xs, t, rfl, rfl⟩ | ⟨rfl, sz, rfl⟩
  · exact h
  · exact .undef _ _
  · cases h with
    | psl0 => exact .psl0 _ _ _ _
    | psl _ _ _ _ b off cap c h0 h1 h2 h3 _ => exact .psl _ _ _ _ _ _ _ c h0 h1 h2 h3 trivial
  · cases h
    exact .psl0 _ _ _ _
def forgT : List V → List V → Prop
  | [], [] => True
  | x :: xs, y :: ys => forgT1 x y ∧ forgT xs ys
  | _, _ => False
theorem forgT_ok {φ : Phi} {μ : Mu} : ∀ (env env' : List V), forgT env env' → env'.length = env.length ∧ ∀ (j : Nat) (c : Value), Rv φ μ (env.getD j .undef) c → Rv φ μ (env'.getD j .undef) c
  | [], [], _ => ⟨rfl, fun j c h => h⟩
  | x :: xs, y :: ys, h => by
    obtain ⟨h1, h2⟩ := h
    obtain ⟨l, hr⟩ := forgT_ok (φ := φ) (μ := μ) xs ys h2
    refine ⟨by simp [l], fun j c hc => ?_⟩
    cases j with
    | zero => exact forgT1_ok hc h1
    | succ j => simpa using hr j c (by simpa using hc)
  | [], _ :: _, h => by cases h
  | _ :: _, [], h => by cases h
theorem forgT_of : ∀ (e e' : List V), forgE e e' → forgT e e'
  | [], [], _ => trivial
  | _ :: xs, _ :: ys, h => ⟨h.1.elim .inl fun h => .inr (.inl h), forgT_of xs ys h.2⟩
  | [], _ :: _, h => by cases h
  | _ :: _, [], h => by cases h

def dropH : Heap → Heap → Prop
  | [], [] => True
  | x :: xs, y :: ys => (y = x ∨ y = none) ∧ dropH xs ys
  | _, _ => False
theorem dropH_refl : ∀ (h : Heap), dropH h h
  | [] => trivial
  | _ :: xs => ⟨.inl rfl, dropH_refl xs⟩
theorem dropH_ok : ∀ (h h' : Heap), dropH h h' → h'.length = h.length ∧ ∀ i k, hget h' i = some k → hget h i = some k
  | [], [], _ => ⟨rfl, fun _ _ h => h⟩
  | x :: xs, y :: ys, h => by
    obtain ⟨l, hr⟩ := dropH_ok xs ys h.2
    refine ⟨by simp [l], fun i k hk => ?_⟩
    cases i with
    | zero =>
      rcases h.1 with rfl | rfl
      · exact hk
      · cases hk
    | succ i => exact hr i k hk
  | [], _ :: _, h => by cases h
  | _ :: _, [], h => by cases h

theorem Rel.less {φ : Phi} {μ : Mu} {B : Nat} {h h' : Heap} {w : World} (r : Rel φ μ B h w) (hd : dropH h h') : Rel φ μ B h' w := by
  obtain ⟨l, hr⟩ := dropH_ok h h' hd
  exact ⟨r.glob, r.cell, r.size, r.inj, fun i b x hi => by rw [l]; exact r.dom i b x hi, fun i k hk => r.blk i k (hr i k hk)⟩

inductive Weak (m0 : Nat) (env : List V) (h : Heap) (env' : List V) (h' : Heap) : Prop where
  | same : forgT env env' → dropH h h' → Weak m0 env h env' h'
  | cut (gone : Heap) : forgT env env' → m0 ≤ h'.length → dropH h (h' ++ gone) → (env'.all (V.under h'.length) && h'.all (Blk.under h'.length)) = true → Weak m0 env h env' h'

theorem Weak.of_forgE {m0 : Nat} {env env' : List V} {h : Heap} (hf : forgE env env') : Weak m0 env h env' h := .same (forgT_of _ _ hf) (dropH_refl _)

theorem weak_ok {φ0 φ : Phi} {μ0 μ : Mu} {B m0 : Nat} {h1 h2 : Heap} {w0 w : World} {env1 env2 : List V} {tmps : Array Value} (hm0 : ∀ i b x, μ0 i = some (b, x) → i < m0) (hx : Ext φ0 μ0 w0 φ μ) (r : Rel φ μ B h1 w) (he : EnvR φ μ env1 tmps) (hf : Weak m0 env1 h1 env2 h2) :
    ∃ μ2, Ext φ0 μ0 w0 φ μ2 ∧ Rel φ μ2 B h2 w ∧ EnvR φ μ2 env2 tmps ∧ ∀ i x, μ2 i = some x → μ i = some x := by
  cases hf with
  | same hE hH =>
    obtain ⟨l, hr⟩ := forgT_ok (φ := φ) (μ := μ) env1 env2 hE
    exact ⟨μ, hx, r.less hH, ⟨l.trans he.size, fun j => hr j _ (he.rv j)⟩, fun _ _ h => h⟩
  | cut gone hE hm hH hb =>
    obtain ⟨l, hr⟩ := forgT_ok (φ := φ) (μ := μ) env1 env2 hE
    exact forg_ok hm0 hx (r.less hH) ⟨l.trans he.size, fun j => hr j _ (he.rv j)⟩ (.cut (forgE_refl _) hm (by simp) hb)

section
variable {P : Program} {T : Nat → Option TI} {env env' : List V} {h h' : Heap} {Q : X → List V → Heap → Prop}

theorem Wp.weakT {c : Code} (hf : forgT env env') (hd : dropH h h') (hk : Wp P T c env' h' Q) : Wp P T c env h Q :=
  ⟨fun ρ φ μ B w a hro hB r he => hk.run ρ φ μ B w a hro hB (r.less hd) (
    have := forgT_ok (φ := φ) (μ := μ) env env' hf
    ⟨this.1.trans he.size, fun j => this.2 j _ (he.rv j)⟩)⟩

theorem Wp.loop {c : Code} (I : Nat → List V → Heap → Prop) (n : Nat) (start : ∃ env' h', Weak h.length env h env' h' ∧ I n env' h')
    (round : ∀ k env' h', I k env' h' → Wp P T c env' h' fun x env1 h1 => match x with | .normal => ∃ k' env2 h2, k' < k ∧ Weak h.length env1 h1 env2 h2 ∧ I k' env2 h2 | x => Q x env1 h1) : Wp P T (.loop c) env h Q := by
  refine ⟨fun ρ φ0 μ0 B w0 a0 hro0 hB0 r0 he0 b k cs hb _ _ => ?_⟩
  have hm0 : ∀ i b x, μ0 i = some (b, x) → i < h.length := fun i b x hi => (r0.dom i b x hi).1
  have key : ∀ (n : Nat) (env : List V) (h1 : Heap) (φ : Phi) (μ : Mu) (w : World) (a : Act), Ext φ0 μ0 w0 φ μ → Fr μ0 w0 w → Rel φ μ B h1 w → EnvR φ μ env a.tmps → Mk μ w0 w a0.defers a.defers → (∃ env' h', Weak h.length env h1 env' h' ∧ I n env' h') → ∀ (b : Frame) (k : List Item) (cs : List Frame), b.roundOf = ρ →
      ∃ e a' w', PostC φ0 μ0 B w0 a0.defers Q e a' w' ∧ ArrivesIn (Machine.fenced P (fen ρ)) P (lone (b.atR a (.code c :: .inLoop c :: k)) cs w) b k cs e a' w' := by
    intro n
    induction n using Nat.strongRecOn with
    | _ n ih =>
      rintro env h1 φ μ w a hx hf r he hd ⟨env2, h2, hweak, hi⟩ b k cs hb
      obtain ⟨μ2, hx2, r2, he2, hless⟩ := weak_ok hm0 hx r he hweak
      obtain ⟨e, a1, w1, hp, harr⟩ := (round n env2 h2 hi).run ρ φ μ2 B w a (hro0.fr hf) (Nat.le_trans hB0 hf.size) r2 he2 b (.inLoop c :: k) cs hb trivial (room_wide _)
      obtain ⟨x, env', h', φ', μ', rfl, hq, he', r', hx', hf', hd'⟩ := hp
      have hxx := hx2.trans hf.size hx'
      have hff := hf.trans hx2 hf'
      have hmm := (hd.less hless).trans hf.size hx' hf' hd'
      cases x with
      | normal =>
        obtain ⟨k', env3, h3, hlt, hw3, hi3⟩ := hq
        obtain ⟨e2, a2, w2, hp2, harr2⟩ := ih k' hlt env' h' φ' μ' w1 a1 hxx hff r' he' hmm ⟨env3, h3, hw3, hi3⟩ b k cs hb
        exact ⟨e2, a2, w2, hp2, .of_steps (StepsIn.trans harr (.one (fenced_calm (n := 0) trivial (room_wide _) rfl) stepR_inLoop)) harr2⟩
      | exit id => exact ⟨_, a1, w1, ⟨.exit id, env', h', φ', μ', rfl, hq, he', r', hxx, hff, hmm⟩, .pass (x := .inLoop c) rfl (fun _ _ => .inl (by simp [X.toExit])) harr⟩
      | ret => exact ⟨_, a1, w1, ⟨.ret, env', h', φ', μ', rfl, hq, he', r', hxx, hff, hmm⟩, .pass (x := .inLoop c) rfl (fun _ _ => .inl (by simp [X.toExit])) harr⟩
  obtain ⟨e, a', w', hp, harr⟩ := key n env h φ0 μ0 w0 a0 (Ext.refl _ _ _) (Fr.refl _ _) r0 he0 (Mk.refl _ _ _ _) start b k cs hb
  exact ⟨e, a', w', hp, .of_steps (.one (fenced_calm (n := 0) trivial (room_wide _) rfl) stepR_loop) harr⟩
end
end Go.Cx
