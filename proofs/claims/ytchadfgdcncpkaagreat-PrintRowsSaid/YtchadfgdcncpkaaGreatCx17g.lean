/- A calculus for calls of the program: canonical values and heaps, and what each operation, loop and call does to them; no condition on the program. -/
import Derived.Test.YtchadfgdcncpkaaGreatCx16cg
namespace Go.Cx
open Go.RowKit

section
variable {P : Program} {T : Nat → Option TI} {env env' : List V} {h h' : Heap} {Q : X → List V → Heap → Prop}

theorem Wp.mono {c : Code} {Q' : X → List V → Heap → Prop} (hQ : ∀ x e h, Q x e h → Q' x e h) (hk : Wp P T c env h Q) : Wp P T c env h Q' :=
  ⟨fun ρ φ μ B w a hro hB r he => wpIn_mono (hk.run ρ φ μ B w a hro hB r he) fun _ _ _ hp => hp.mono hQ⟩

theorem EnvR.forg {φ : Phi} {μ : Mu} {tmps : Array Value} (he : EnvR φ μ env tmps) (hf : forgE env env') : EnvR φ μ env' tmps :=
  have := forgE_ok (φ := φ) (μ := μ) env env' hf
  ⟨this.1.trans he.size, fun j => this.2 j _ (he.rv j)⟩

theorem Wp.weak {c : Code} (hf : forgE env env') (hk : Wp P T c env' h Q) : Wp P T c env h Q :=
  ⟨fun ρ φ μ B w a hro hB r he => hk.run ρ φ μ B w a hro hB r (he.forg hf)⟩

theorem Wp.seq {x y : Code} (hk : Wp P T x env h fun z e h => match z with | .normal => Wp P T y e h Q | z => Q z e h) : Wp P T (.seq x y) env h Q := by
  refine ⟨fun ρ φ μ B w a hro hB r he => wpIn_seq (wpIn_mono (hk.run ρ φ μ B w a hro hB r he) ?_)⟩
  rintro e a' w' ⟨x, env', h', φ', μ', rfl, hq, he', r', hx, hf, hd⟩
  cases x with
  | normal =>
    exact wpIn_mono (Wp.run hq ρ φ' μ' B w' a' (hro.fr hf) (Nat.le_trans hB hf.size) r' he') fun _ _ _ hp => hp.trans hx hf hd
  | exit id => exact ⟨.exit id, env', h', φ', μ', rfl, hq, he', r', hx, hf, hd⟩
  | ret => exact ⟨.ret, env', h', φ', μ', rfl, hq, he', r', hx, hf, hd⟩

theorem Wp.block {id : Nat} {c : Code} (hk : Wp P T c env h fun x env h => match x with | .exit i => cond (i == id) (Q .normal env h) (Q (.exit i) env h) | x => Q x env h) : Wp P T (.block id c) env h Q := by
  refine ⟨fun ρ φ μ B w a hro hB r he => wpIn_block (wpIn_mono (hk.run ρ φ μ B w a hro hB r he) ?_)⟩
  rintro e a' w' ⟨x, env', h', φ', μ', rfl, hq, he', r', hx, hf, hd⟩
  cases x with
  | normal => exact ⟨.normal, env', h', φ', μ', rfl, hq, he', r', hx, hf, hd⟩
  | exit i =>
    simp only [X.toExit, Exit.inBlock]
    by_cases hi : i = id
    · rw [if_pos hi]
      have : (i == id) = true := by simpa using hi
      simp only [this, cond_true] at hq
      exact ⟨.normal, env', h', φ', μ', rfl, hq, he', r', hx, hf, hd⟩
    · rw [if_neg hi]
      have : (i == id) = false := by simpa using hi
      simp only [this, cond_false] at hq
      exact ⟨.exit i, env', h', φ', μ', rfl, hq, he', r', hx, hf, hd⟩
  | ret => exact ⟨.ret, env', h', φ', μ', rfl, hq, he', r', hx, hf, hd⟩

theorem Wp.cond {b : Bool} {c : Operand} {x y : Code} (hc : evE env c = .bool b) (ht : b = true → Wp P T x env h Q) (hf : b = false → Wp P T y env h Q) : Wp P T (.cond c x y) env h Q := by
  refine ⟨fun ρ φ μ B w a hro hB r he => ?_⟩
  have hr := he.eval r c
  rw [hc] at hr
  generalize hcc : a.eval c = cc at hr
  cases hr
  refine wpIn_cond hcc ?_
  cases b with
  | true => exact (ht rfl).run ρ φ μ B w a hro hB r he
  | false => exact (hf rfl).run ρ φ μ B w a hro hB r he

/-- Values that are still wanted; all others are forgotten. -/
def keepE : List Bool → List V → List V
  | _, [] => []
  | [], _ :: xs => .undef :: keepE [] xs
  | true :: bs, x :: xs => x :: keepE bs xs
  | false :: bs, _ :: xs => .undef :: keepE bs xs
theorem keepE_forg : ∀ (bs : List Bool) (e : List V), forgE e (keepE bs e)
  | [], [] => trivial
  | _ :: _, [] => trivial
  | [], _ :: xs => ⟨.inr rfl, keepE_forg [] xs⟩
  | true :: bs, _ :: xs => ⟨.inl rfl, keepE_forg bs xs⟩
  | false :: bs, _ :: xs => ⟨.inr rfl, keepE_forg bs xs⟩

theorem Sem.of_Wp (hT : TOk P T) {g : FuncId} {fn : Func} {c : Code} {args : List V} {K : V → Heap → Prop} (hf : P.funcs[g]? = some fn) (hb : fn.body = some c) (hn : (fn.name == "runtime.NumGoroutine") = false)
    (hk : forceL (args ++ List.replicate (fn.ntmps - args.length) .undef) fun env => Wp P T c env h fun x env' h' => match x with | .exit _ => False | _ => retP T fn.results.toList env' h' K) : Sem P g args h K := by
  refine ⟨fun φ μ B w cargs hB r ha => .inl ⟨callFunc_enter ⟨fn, hf, by rw [hb]; rfl, hn⟩, ?_⟩⟩
  rw [forceL_eq] at hk
  exact sem_body hT hf hb (hk.run none φ μ B w { tmps := cargs ++ Array.replicate (fn.ntmps - cargs.size) Go.undef, defers := [] } (RoOk.none w) hB r (envR_start ha _))
end
end Go.Cx
namespace Go.Cx
open Go.RowKit

/-! ### Loops, with what is forgotten between rounds -/
def forgT1 (x y : V) : Prop := y = x ∨ y = .undef ∨ (∃ sz xs t, x = .psl sz xs t ∧ y = .psl sz xs .any) ∨ (x = .nils ∧ ∃ sz, y = .psl sz [] .any)
theorem forgT1_ok {φ : Phi} {μ : Mu} {x y : V} {c : Value} (h : Rv φ μ x c) (hf : forgT1 x y) : Rv φ μ y c := by
  rcases hf with rfl | rfl | ⟨sz, xs, t, rfl, rfl⟩ | ⟨rfl, sz, rfl⟩
  · exact h
  · exact .undef _ _
  · cases h with
    | psl0 => exact .psl0 _ _ _ _
    | psl _ _ _ _ b off cap c h0 h1 h2 h3 _ => exact .psl _ _ _ _ _ _ _ c h0 h1 h2 h3 trivial
  · cases h
    exact .psl0 _ _ _ _
def forgT : List V → List V → Prop
  | [], [] => True
  | x :: xs, y :: ys => forgT1 x y ∧ forgT xs ys
  | _, _ => False
theorem forgT_ok {φ : Phi} {μ : Mu} : ∀ (env env' : List V), forgT env env' → env'.length = env.length ∧ ∀ (j : Nat) (c : Value), Rv φ μ (env.getD j .undef) c → Rv φ μ (env'.getD j .undef) c
  | [], [], _ => ⟨rfl, fun j c h => h⟩
  | x :: xs, y :: ys, h => by
    obtain ⟨h1, h2⟩ := h
    obtain ⟨l, hr⟩ := forgT_ok (φ := φ) (μ := μ) xs ys h2
    refine ⟨by simp [l], fun j c hc => ?_⟩
    cases j with
    | zero => exact forgT1_ok hc h1
    | succ j => simpa using hr j c (by simpa using hc)
  | [], _ :: _, h => by cases h
  | _ :: _, [], h => by cases h
theorem forgT_of : ∀ (e e' : List V), forgE e e' → forgT e e'
  | [], [], _ => trivial
  | _ :: xs, _ :: ys, h => ⟨h.1.elim .inl fun h => .inr (.inl h), forgT_of xs ys h.2⟩
  | [], _ :: _, h => by cases h
  | _ :: _, [], h => by cases h

def dropH : Heap → Heap → Prop
  | [], [] => True
  | x :: xs, y :: ys => (y = x ∨ y = none) ∧ dropH xs ys
  | _, _ => False
theorem dropH_refl : ∀ (h : Heap), dropH h h
  | [] => trivial
  | _ :: xs => ⟨.inl rfl, dropH_refl xs⟩
theorem dropH_ok : ∀ (h h' : Heap), dropH h h' → h'.length = h.length ∧ ∀ i k, hget h' i = some k → hget h i = some k
  | [], [], _ => ⟨rfl, fun _ _ h => h⟩
  | x :: xs, y :: ys, h => by
    obtain ⟨l, hr⟩ := dropH_ok xs ys h.2
    refine ⟨by simp [l], fun i k hk => ?_⟩
    cases i with
    | zero =>
      rcases h.1 with rfl | rfl
      · exact hk
      · cases hk
    | succ i => exact hr i k hk
  | [], _ :: _, h => by cases h
  | _ :: _, [], h => by cases h

theorem Rel.less {φ : Phi} {μ : Mu} {B : Nat} {h h' : Heap} {w : World} (r : Rel φ μ B h w) (hd : dropH h h') : Rel φ μ B h' w := by
  obtain ⟨l, hr⟩ := dropH_ok h h' hd
  exact ⟨r.glob, r.cell, r.size, r.inj, fun i b x hi => by rw [l]; exact r.dom i b x hi, fun i k hk => r.blk i k (hr i k hk)⟩

inductive Weak (m0 : Nat) (env : List V) (h : Heap) (env' : List V) (h' : Heap) : Prop where
  | same : forgT env env' → dropH h h' → Weak m0 env h env' h'
  | cut (gone : Heap) : forgT env env' → m0 ≤ h'.length → dropH h (h' ++ gone) → (env'.all (V.under h'.length) && h'.all (Blk.under h'.length)) = true → Weak m0 env h env' h'

theorem Weak.of_forgE {m0 : Nat} {env env' : List V} {h : Heap} (hf : forgE env env') : Weak m0 env h env' h := .same (forgT_of _ _ hf) (dropH_refl _)

theorem weak_ok {φ0 φ : Phi} {μ0 μ : Mu} {B m0 : Nat} {h1 h2 : Heap} {w0 w : World} {env1 env2 : List V} {tmps : Array Value} (hm0 : ∀ i b x, μ0 i = some (b, x) → i < m0) (hx : Ext φ0 μ0 w0 φ μ) (r : Rel φ μ B h1 w) (he : EnvR φ μ env1 tmps) (hf : Weak m0 env1 h1 env2 h2) :
    ∃ μ2, Ext φ0 μ0 w0 φ μ2 ∧ Rel φ μ2 B h2 w ∧ EnvR φ μ2 env2 tmps ∧ ∀ i x, μ2 i = some x → μ i = some x := by
  cases hf with
  | same hE hH =>
    obtain ⟨l, hr⟩ := forgT_ok (φ := φ) (μ := μ) env1 env2 hE
    exact ⟨μ, hx, r.less hH, ⟨l.trans he.size, fun j => hr j _ (he.rv j)⟩, fun _ _ h => h⟩
  | cut gone hE hm hH hb =>
    obtain ⟨l, hr⟩ := forgT_ok (φ := φ) (μ := μ) env1 env2 hE
    exact forg_ok hm0 hx (r.less hH) ⟨l.trans he.size, fun j => hr j _ (he.rv j)⟩ (.cut (forgE_refl _) hm (by simp) hb)

section
variable {P : Program} {T : Nat → Option TI} {env env' : List V} {h h' : Heap} {Q : X → List V → Heap → Prop}

theorem Wp.weakT {c : Code} (hf : forgT env env') (hd : dropH h h') (hk : Wp P T c env' h' Q) : Wp P T c env h Q :=
  ⟨fun ρ φ μ B w a hro hB r he => hk.run ρ φ μ B w a hro hB (r.less hd) (
    have := forgT_ok (φ := φ) (μ := μ) env env' hf
    ⟨this.1.trans he.size, fun j => this.2 j _ (he.rv j)⟩)⟩

theorem Wp.loop {c : Code} (I : Nat → List V → Heap → Prop) (n : Nat) (start : ∃ env' h', Weak h.length env h env' h' ∧ I n env' h')
    (round : ∀ k env' h', I k env' h' → Wp P T c env' h' fun x env1 h1 => match x with | .normal => ∃ k' env2 h2, k' < k ∧ Weak h.length env1 h1 env2 h2 ∧ I k' env2 h2 | x => Q x env1 h1) : Wp P T (.loop c) env h Q := by
  refine ⟨fun ρ φ0 μ0 B w0 a0 hro0 hB0 r0 he0 b k cs hb _ _ => ?_⟩
  have hm0 : ∀ i b x, μ0 i = some (b, x) → i < h.length := fun i b x hi => (r0.dom i b x hi).1
  have key : ∀ (n : Nat) (env : List V) (h1 : Heap) (φ : Phi) (μ : Mu) (w : World) (a : Act), Ext φ0 μ0 w0 φ μ → Fr μ0 w0 w → Rel φ μ B h1 w → EnvR φ μ env a.tmps → Mk μ w0 w a0.defers a.defers → (∃ env' h', Weak h.length env h1 env' h' ∧ I n env' h') → ∀ (b : Frame) (k : List Item) (cs : List Frame), b.roundOf = ρ →
      ∃ e a' w', PostC φ0 μ0 B w0 a0.defers Q e a' w' ∧ ArrivesIn (Machine.fenced P (fen ρ)) P (lone (b.atR a (.code c :: .inLoop c :: k)) cs w) b k cs e a' w' := by
    intro n
    induction n using Nat.strongRecOn with
    | _ n ih =>
      rintro env h1 φ μ w a hx hf r he hd ⟨env2, h2, hweak, hi⟩ b k cs hb
      obtain ⟨μ2, hx2, r2, he2, hless⟩ := weak_ok hm0 hx r he hweak
      obtain ⟨e, a1, w1, hp, harr⟩ := (round n env2 h2 hi).run ρ φ μ2 B w a (hro0.fr hf) (Nat.le_trans hB0 hf.size) r2 he2 b (.inLoop c :: k) cs hb trivial (room_wide _)
      obtain ⟨x, env', h', φ', μ', rfl, hq, he', r', hx', hf', hd'⟩ := hp
      have hxx := hx2.trans hf.size hx'
      have hff := hf.trans hx2 hf'
      have hmm := (hd.less hless).trans hf.size hx' hf' hd'
      cases x with
      | normal =>
        obtain ⟨k', env3, h3, hlt, hw3, hi3⟩ := hq
        obtain ⟨e2, a2, w2, hp2, harr2⟩ := ih k' hlt env' h' φ' μ' w1 a1 hxx hff r' he' hmm ⟨env3, h3, hw3, hi3⟩ b k cs hb
        exact ⟨e2, a2, w2, hp2, .of_steps (StepsIn.trans harr (.one (fenced_calm (n := 0) trivial (room_wide _) rfl) stepR_inLoop)) harr2⟩
      | exit id => exact ⟨_, a1, w1, ⟨.exit id, env', h', φ', μ', rfl, hq, he', r', hxx, hff, hmm⟩, .pass (x := .inLoop c) rfl (fun _ _ => .inl (by simp [X.toExit])) harr⟩
      | ret => exact ⟨_, a1, w1, ⟨.ret, env', h', φ', μ', rfl, hq, he', r', hxx, hff, hmm⟩, .pass (x := .inLoop c) rfl (fun _ _ => .inl (by simp [X.toExit])) harr⟩
  obtain ⟨e, a', w', hp, harr⟩ := key n env h φ0 μ0 w0 a0 (Ext.refl _ _ _) (Fr.refl _ _) r0 he0 (Mk.refl _ _ _ _) start b k cs hb
  exact ⟨e, a', w', hp, .of_steps (.one (fenced_calm (n := 0) trivial (room_wide _) rfl) stepR_loop) harr⟩
end
end Go.Cx
namespace Go.Cx
open Go.RowKit

/-! ### Renaming of blocks -/
def V.mv1 (f : Nat → Nat) : V → V
  | .ptr i o => .ptr (f i) o
  | .gptr i o v => .gptr (f i) o v
  | .gsl i sz o n lo ex v => .gsl (f i) sz o n lo ex v
  | .lsl i sz o n c => .lsl (f i) sz o n c
  | .map i => .map (f i)
  | .yld i => .yld (f i)
  | .psl sz xs (.own i) => .psl sz xs (.own (f i))
  | v => v
def V.mv2 (f : Nat → Nat) : V → V
  | .fn g a b => .fn g (a.map (V.mv1 f)) (b.map (V.mv1 f))
  | .agg cs => .agg (cs.map (V.mv1 f))
  | .tup cs => .tup (cs.map (V.mv1 f))
  | v => v.mv1 f
def V.mv (f : Nat → Nat) : V → V
  | .fn g a b => .fn g (a.map (V.mv2 f)) (b.map (V.mv2 f))
  | .agg cs => .agg (cs.map (V.mv2 f))
  | .tup cs => .tup (cs.map (V.mv2 f))
  | v => v.mv1 f

theorem getD_map {f : V → V} (hf : f .undef = .undef) (l : List V) (j : Nat) : (l.map f).getD j .undef = f (l.getD j .undef) := by
  rw [List.getD_eq_getElem?_getD, List.getD_eq_getElem?_getD, List.getElem?_map]
  cases l[j]? with
  | none => exact hf.symm
  | some x => rfl

section
variable {φ : Phi} {μ0 μ : Mu} {f : Nat → Nat} {m : Nat}
theorem mv1_fwd (hf : ∀ i x, μ0 i = some x → μ (f i) = some x) {v : V} {c : Value} (h : Rv φ μ0 v c) (hb : v.under1 m = true) : Rv φ μ (v.mv1 f) c := by
  cases h with
  | undef => exact .undef _ _
  | bool => exact .bool _ _
  | int => exact .int _ _ _
  | str => exact .str _ _
  | nilp => exact .nilp _
  | ptr _ id off b hm => exact .ptr _ _ _ _ (hf _ _ hm)
  | gptr _ id off ver b m' a h1 h2 h3 => exact .gptr _ _ _ _ b m' a (hf _ _ h1) h2 h3
  | gsl _ id sz off n lo ex ver b m' cc a h1 h2 h3 h4 h5 h6 => exact .gsl _ _ _ _ _ _ _ _ b m' cc a (hf _ _ h1) h2 h3 h4 h5 h6
  | nilm => exact .nilm _
  | iptr _ cs b off c h1 h2 => exact .iptr _ _ _ _ c h1 h2
  | fn => cases hb
  | nilfn => exact .nilfn _
  | nils => exact .nils _
  | psl0 => exact .psl0 _ _ _ _
  | psl _ sz xs tok b off cap c h0 h1 h2 h3 h4 =>
    cases tok with
    | any => exact .psl _ _ _ _ _ _ _ c h0 h1 h2 h3 trivial
    | exact => exact .psl _ _ _ _ _ _ _ c h0 h1 h2 h3 h4
    | own id =>
      obtain ⟨b', m', g1, g2⟩ := h4
      exact .psl _ _ _ _ _ _ _ c h0 h1 h2 h3 ⟨b', m', hf _ _ g1, g2⟩
  | lsl _ id sz off n cap b hm h' => exact .lsl _ _ _ _ _ _ _ (hf _ _ hm) h'
  | map _ id b hm => exact .map _ _ _ (hf _ _ hm)
  | yld _ id b hm => exact .yld _ _ _ (hf _ _ hm)
  | agg => cases hb
  | tup => cases hb

theorem mapRv {g : V → V} {p : V → Bool} (hg : g .undef = .undef) (one : ∀ (v : V) (c : Value), Rv φ μ0 v c → p v = true → Rv φ μ (g v) c) {xs : List V} {cs : Array Value} (l : xs.length = cs.size) (r : ∀ j, j < xs.length → Rv φ μ0 (xs.getD j .undef) (cs.getD j Go.undef)) (hb : xs.all p = true) :
    (xs.map g).length = cs.size ∧ ∀ j, j < (xs.map g).length → Rv φ μ ((xs.map g).getD j .undef) (cs.getD j Go.undef) :=
  ⟨by rw [List.length_map]; exact l, fun j hj => by
    rw [List.length_map] at hj
    rw [getD_map hg]
    exact one _ _ (r j hj) (all_getD hb hj)⟩

theorem mv2_fwd (hf : ∀ i x, μ0 i = some x → μ (f i) = some x) {v : V} {c : Value} (h : Rv φ μ0 v c) (hb : v.under2 m = true) : Rv φ μ (v.mv2 f) c := by
  unfold V.under2 at hb
  split at hb
  · simp only [Bool.and_eq_true] at hb
    cases h with
    | fn _ g a b cf cc l1 l2 h1 h2 =>
      have A := mapRv (μ := μ) (g := V.mv1 f) rfl (fun v c h hp => mv1_fwd hf h hp) l1 h1 hb.1
      have B := mapRv (μ := μ) (g := V.mv1 f) rfl (fun v c h hp => mv1_fwd hf h hp) l2 h2 hb.2
      exact .fn _ _ _ _ _ _ A.1 B.1 (fun j hj => A.2 j (by simpa using hj)) (fun j hj => B.2 j (by simpa using hj))
  · obtain ⟨cs, rfl, hA⟩ := h.agg_inv
    have A := mapRv (μ := μ) (g := V.mv1 f) rfl (fun v c h hp => mv1_fwd hf h hp) hA.1 hA.2 hb
    exact .agg _ _ _ A.1 A.2
  · obtain ⟨cs, rfl, hA⟩ := h.tup_inv
    have A := mapRv (μ := μ) (g := V.mv1 f) rfl (fun v c h hp => mv1_fwd hf h hp) hA.1 hA.2 hb
    exact .tup _ _ _ A.1 A.2
  · rename_i n1 n2 n3
    have e : v.mv2 f = v.mv1 f := by
      cases v <;> first | rfl | exact absurd rfl (n1 _ _ _) | exact absurd rfl (n2 _) | exact absurd rfl (n3 _)
    rw [e]
    exact mv1_fwd hf h hb

theorem mv_fwd (hf : ∀ i x, μ0 i = some x → μ (f i) = some x) {v : V} {c : Value} (h : Rv φ μ0 v c) (hb : v.under m = true) : Rv φ μ (v.mv f) c := by
  unfold V.under at hb
  split at hb
  · simp only [Bool.and_eq_true] at hb
    cases h with
    | fn _ g a b cf cc l1 l2 h1 h2 =>
      have A := mapRv (μ := μ) (g := V.mv2 f) rfl (fun v c h hp => mv2_fwd hf h hp) l1 h1 hb.1
      have B := mapRv (μ := μ) (g := V.mv2 f) rfl (fun v c h hp => mv2_fwd hf h hp) l2 h2 hb.2
      exact .fn _ _ _ _ _ _ A.1 B.1 (fun j hj => A.2 j (by simpa using hj)) (fun j hj => B.2 j (by simpa using hj))
  · obtain ⟨cs, rfl, hA⟩ := h.agg_inv
    have A := mapRv (μ := μ) (g := V.mv2 f) rfl (fun v c h hp => mv2_fwd hf h hp) hA.1 hA.2 hb
    exact .agg _ _ _ A.1 A.2
  · obtain ⟨cs, rfl, hA⟩ := h.tup_inv
    have A := mapRv (μ := μ) (g := V.mv2 f) rfl (fun v c h hp => mv2_fwd hf h hp) hA.1 hA.2 hb
    exact .tup _ _ _ A.1 A.2
  · rename_i n1 n2 n3
    have e : v.mv f = v.mv1 f := by
      cases v <;> first | rfl | exact absurd rfl (n1 _ _ _) | exact absurd rfl (n2 _) | exact absurd rfl (n3 _)
    rw [e]
    exact mv1_fwd hf h hb

/-! Back -/
theorem mv1_bwd (hf : ∀ i, i < m → μ0 i = μ (f i)) {v : V} {c : Value} (hb : v.under1 m = true) (h : Rv φ μ (v.mv1 f) c) : Rv φ μ0 v c := by
  have lt : ∀ {i : Nat}, Nat.blt i m = true → μ0 i = μ (f i) := fun hi => hf _ (by rwa [Nat.blt_eq] at hi)
  cases v with
  | undef => exact .undef _ _
  | bool => cases h; exact .bool _ _
  | int => cases h; exact .int _ _ _
  | str => cases h; exact .str _ _
  | nilp => cases h; exact .nilp _
  | ptr i o => cases h with | ptr _ _ _ b hm => exact .ptr _ _ _ _ ((lt hb).trans hm)
  | gptr i o v => cases h with | gptr _ _ _ _ b m' a h1 h2 h3 => exact .gptr _ _ _ _ b m' a ((lt hb).trans h1) h2 h3
  | iptr cs => cases h with | iptr _ _ b off c h1 h2 => exact .iptr _ _ _ _ c h1 h2
  | fn => cases hb
  | nilfn => cases h; exact .nilfn _
  | nils => cases h; exact .nils _
  | psl sz xs tok =>
    cases tok with
    | any =>
      cases h with
      | psl0 => exact .psl0 _ _ _ _
      | psl _ _ _ _ b off cap c h0 h1 h2 h3 h4 => exact .psl _ _ _ _ _ _ _ c h0 h1 h2 h3 trivial
    | exact => cases h with | psl _ _ _ _ b off cap c h0 h1 h2 h3 h4 => exact .psl _ _ _ _ _ _ _ c h0 h1 h2 h3 h4
    | own i =>
      cases h with
      | psl _ _ _ _ b off cap c h0 h1 h2 h3 h4 =>
        obtain ⟨b', m', g1, g2⟩ := h4
        exact .psl _ _ _ _ _ _ _ c h0 h1 h2 h3 ⟨b', m', (lt hb).trans g1, g2⟩
  | lsl i sz o n cp => cases h with | lsl _ _ _ _ _ _ b hm h' => exact .lsl _ _ _ _ _ _ _ ((lt hb).trans hm) h'
  | gsl i sz o n lo ex ver => cases h with | gsl _ _ _ _ _ _ _ _ b m' cc a h1 h2 h3 h4 h5 h6 => exact .gsl _ _ _ _ _ _ _ _ b m' cc a ((lt hb).trans h1) h2 h3 h4 h5 h6
  | map i => cases h with | map _ _ b hm => exact .map _ _ _ ((lt hb).trans hm)
  | nilm => cases h; exact .nilm _
  | agg => cases hb
  | tup => cases hb
  | yld i => cases h with | yld _ _ b hm => exact .yld _ _ _ ((lt hb).trans hm)

theorem mapBwd {g : V → V} {p : V → Bool} (hg : g .undef = .undef) (one : ∀ (v : V) (c : Value), p v = true → Rv φ μ (g v) c → Rv φ μ0 v c) {xs : List V} {cs : Array Value} (l : (xs.map g).length = cs.size) (r : ∀ j, j < (xs.map g).length → Rv φ μ ((xs.map g).getD j .undef) (cs.getD j Go.undef)) (hb : xs.all p = true) :
    xs.length = cs.size ∧ ∀ j, j < xs.length → Rv φ μ0 (xs.getD j .undef) (cs.getD j Go.undef) :=
  ⟨by rw [List.length_map] at l; exact l, fun j hj => by
    have := r j (by rw [List.length_map]; exact hj)
    rw [getD_map hg] at this
    exact one _ _ (all_getD hb hj) this⟩

theorem mv2_bwd (hf : ∀ i, i < m → μ0 i = μ (f i)) {v : V} {c : Value} (hb : v.under2 m = true) (h : Rv φ μ (v.mv2 f) c) : Rv φ μ0 v c := by
  have one := fun v c hp h => mv1_bwd (φ := φ) hf (v := v) (c := c) hp h
  unfold V.under2 at hb
  split at hb
  · simp only [Bool.and_eq_true] at hb
    cases h with
    | fn _ g a b cf cc l1 l2 h1 h2 =>
      have A := mapBwd (μ0 := μ0) (g := V.mv1 f) rfl one l1 h1 hb.1
      have B := mapBwd (μ0 := μ0) (g := V.mv1 f) rfl one l2 h2 hb.2
      exact .fn _ _ _ _ _ _ A.1 B.1 A.2 B.2
  · obtain ⟨cs, rfl, hA⟩ := h.agg_inv
    have A := mapBwd (μ0 := μ0) (g := V.mv1 f) rfl one hA.1 hA.2 hb
    exact .agg _ _ _ A.1 A.2
  · obtain ⟨cs, rfl, hA⟩ := h.tup_inv
    have A := mapBwd (μ0 := μ0) (g := V.mv1 f) rfl one hA.1 hA.2 hb
    exact .tup _ _ _ A.1 A.2
  · rename_i n1 n2 n3
    have e : v.mv2 f = v.mv1 f := by
      cases v <;> first | rfl | exact absurd rfl (n1 _ _ _) | exact absurd rfl (n2 _) | exact absurd rfl (n3 _)
    rw [e] at h
    exact mv1_bwd hf hb h

theorem mv_bwd (hf : ∀ i, i < m → μ0 i = μ (f i)) {v : V} {c : Value} (hb : v.under m = true) (h : Rv φ μ (v.mv f) c) : Rv φ μ0 v c := by
  have one := fun v c hp h => mv2_bwd (φ := φ) hf (v := v) (c := c) hp h
  unfold V.under at hb
  split at hb
  · simp only [Bool.and_eq_true] at hb
    cases h with
    | fn _ g a b cf cc l1 l2 h1 h2 =>
      have A := mapBwd (μ0 := μ0) (g := V.mv2 f) rfl one l1 h1 hb.1
      have B := mapBwd (μ0 := μ0) (g := V.mv2 f) rfl one l2 h2 hb.2
      exact .fn _ _ _ _ _ _ A.1 B.1 A.2 B.2
  · obtain ⟨cs, rfl, hA⟩ := h.agg_inv
    have A := mapBwd (μ0 := μ0) (g := V.mv2 f) rfl one hA.1 hA.2 hb
    exact .agg _ _ _ A.1 A.2
  · obtain ⟨cs, rfl, hA⟩ := h.tup_inv
    have A := mapBwd (μ0 := μ0) (g := V.mv2 f) rfl one hA.1 hA.2 hb
    exact .tup _ _ _ A.1 A.2
  · rename_i n1 n2 n3
    have e : v.mv f = v.mv1 f := by
      cases v <;> first | rfl | exact absurd rfl (n1 _ _ _) | exact absurd rfl (n2 _) | exact absurd rfl (n3 _)
    rw [e] at h
    exact mv1_bwd hf hb h
end

def Blk.mvB (f : Nat → Nat) : Blk → Blk
  | .cells e cs => .cells e (cs.map (V.mv f))
  | b => b
def Blk.mv (f : Nat → Nat) (b : Option Blk) : Option Blk := match b with | some k => some (k.mvB f) | none => none
/-- Blocks that may be renamed: cells of values under some id; what grows holds free values alone. -/
def Blk.okB (m : Nat) : Blk → Bool
  | .cells _ cs => cs.all (V.under m)
  | .grow _ _ _ cs => cs.all V.free1
  | _ => false
def Blk.ok (m : Nat) (b : Option Blk) : Bool := match b with | some k => k.okB m | none => true

theorem blk_fwd {φ : Phi} {μ0 μ : Mu} {f : Nat → Nat} {m b : Nat} {x : Option Nat} {w : World} (hf : ∀ i x, μ0 i = some x → μ (f i) = some x) {k : Blk} (hb : k.okB m = true) (h : BlkR φ μ0 b x w k) : BlkR φ μ b x w (k.mvB f) := by
  cases k with
  | cells e cs =>
    obtain ⟨h0, c, h1, h2, h3, h4⟩ := h
    have A := mapRv (μ := μ) (g := V.mv f) rfl (fun v c h hp => mv_fwd hf h hp) h2.symm h3 hb
    exact ⟨h0, c, h1, A.1.symm, A.2, h4⟩
  | grow ver e sz cs =>
    obtain ⟨h0, c, h1, h2, h3, h4, h5⟩ := h
    exact ⟨h0, c, h1, h2, h3, fun j hj => free1_rv (h4 j hj) (all_getD hb hj) _, h5⟩
  | token => cases hb
  | siter => cases hb
  | dead => cases hb
  | miter => cases hb
  | map => cases hb
  | mapc => cases hb
  | loop => cases hb

theorem blk_bwd {φ : Phi} {μ0 μ : Mu} {f : Nat → Nat} {m b : Nat} {x : Option Nat} {w : World} (hf : ∀ i, i < m → μ0 i = μ (f i)) {k : Blk} (hb : k.okB m = true) (h : BlkR φ μ b x w (k.mvB f)) : BlkR φ μ0 b x w k := by
  cases k with
  | cells e cs =>
    obtain ⟨h0, c, h1, h2, h3, h4⟩ := h
    have A := mapBwd (μ0 := μ0) (g := V.mv f) rfl (fun v c hp h => mv_bwd hf hp h) h2.symm h3 hb
    exact ⟨h0, c, h1, A.1.symm, A.2, h4⟩
  | grow ver e sz cs =>
    obtain ⟨h0, c, h1, h2, h3, h4, h5⟩ := h
    exact ⟨h0, c, h1, h2, h3, fun j hj => free1_rv (h4 j hj) (all_getD hb hj) _, h5⟩
  | token => cases hb
  | siter => cases hb
  | dead => cases hb
  | miter => cases hb
  | map => cases hb
  | mapc => cases hb
  | loop => cases hb

/-! ### The frame: a call in a small heap, said of a larger one -/
def iot (ι : List Nat) (H i : Nat) : Nat := match ι[i]? with | some j => j | none => H + (i - ι.length)
def setAll (h : Heap) : List Nat → List (Option Blk) → Heap
  | i :: ι, b :: bs => setAll (h.set i b) ι bs
  | [], bs => h ++ bs
  | _ :: _, [] => h
def plug (ι : List Nat) (h h0 : Heap) : Heap := setAll h ι (h0.map (Blk.mv (iot ι h.length)))

theorem setAll_spec : ∀ (ι : List Nat) (h : Heap) (bs : List (Option Blk)), ι.Nodup → (∀ i ∈ ι, i < h.length) → ι.length ≤ bs.length →
    (setAll h ι bs).length = h.length + (bs.length - ι.length) ∧ (∀ (k i : Nat), ι[k]? = some i → hget (setAll h ι bs) i = (bs[k]?).join) ∧
    (∀ j, j < h.length → j ∉ ι → hget (setAll h ι bs) j = hget h j) ∧ (∀ j, h.length ≤ j → hget (setAll h ι bs) j = (bs[j - h.length + ι.length]?).join)
  | [], h, bs, _, _, _ => by
    refine ⟨by simp [setAll], fun k i hk => by simp at hk, fun j hj _ => ?_, fun j hj => ?_⟩
    · simp only [setAll, hget]
      rw [List.getElem?_append_left hj]
    · simp only [setAll, hget]
      rw [List.getElem?_append_right hj]
      simp
  | i :: ι, h, [], _, _, hl => by simp at hl
  | i :: ι, h, b :: bs, hnd, hlt, hl => by
    obtain ⟨hi, hnd'⟩ := List.nodup_cons.1 hnd
    obtain ⟨l, h1, h2, h3⟩ := setAll_spec ι (h.set i b) bs hnd' (fun k hk => by rw [List.length_set]; exact hlt k (List.mem_cons_of_mem _ hk)) (by simpa using hl)
    rw [List.length_set] at l h2 h3
    refine ⟨by simp only [setAll, l, List.length_cons]; omega, fun k j hk => ?_, fun j hj hn => ?_, fun j hj => ?_⟩
    · cases k with
      | zero =>
        simp only [List.getElem?_cons_zero, Option.some.injEq] at hk
        subst hk
        simp only [setAll]
        rw [h2 i (hlt i (List.mem_cons_self ..)) hi, hget_set]
        simp [hlt i (List.mem_cons_self ..)]
      | succ k =>
        simp only [List.getElem?_cons_succ] at hk
        simp only [setAll]
        rw [h1 k j hk]
        simp
    · simp only [List.mem_cons, not_or] at hn
      simp only [setAll]
      rw [h2 j hj hn.2, hget_set, if_neg (fun e => hn.1 e.1.symm)]
    · simp only [setAll]
      rw [h3 j hj, List.length_cons, show j - h.length + (ι.length + 1) = j - h.length + ι.length + 1 by omega, List.getElem?_cons_succ]

theorem iot_lt {ι : List Nat} {H i : Nat} (hi : i < ι.length) : ι[i]? = some (iot ι H i) := by
  unfold iot
  rw [List.getElem?_eq_getElem hi]
theorem iot_ge {ι : List Nat} {H i : Nat} (hi : ι.length ≤ i) : iot ι H i = H + (i - ι.length) := by
  unfold iot
  rw [List.getElem?_eq_none hi]
theorem iot_inj {ι : List Nat} {H : Nat} (hnd : ι.Nodup) (hlt : ∀ i ∈ ι, i < H) {i j : Nat} (h : iot ι H i = iot ι H j) : i = j := by
  rcases Nat.lt_or_ge i ι.length with hi | hi <;> rcases Nat.lt_or_ge j ι.length with hj | hj
  · have h1 := iot_lt (H := H) hi
    have h2 := iot_lt (H := H) hj
    rw [← h] at h2
    rw [List.getElem?_eq_getElem hi, Option.some.injEq] at h1
    rw [List.getElem?_eq_getElem hj, Option.some.injEq] at h2
    have hp := List.pairwise_iff_getElem.1 hnd
    rcases Nat.lt_trichotomy i j with hl | hl | hl
    · exact absurd (h1.trans h2.symm) (hp i j hi hj hl)
    · exact hl
    · exact absurd (h2.trans h1.symm) (hp j i hj hi hl)
  · have := hlt _ (List.mem_of_getElem? (iot_lt (H := H) hi))
    rw [h, iot_ge hj] at this
    omega
  · have := hlt _ (List.mem_of_getElem? (iot_lt (H := H) hj))
    rw [← h, iot_ge hi] at this
    omega
  · rw [iot_ge hi, iot_ge hj] at h
    omega

open Classical in
noncomputable def muP (ι : List Nat) (H : Nat) (μ μ0 : Mu) : Mu := fun j => if h : ∃ i, iot ι H i = j then μ0 h.choose else μ j
theorem muP_at {ι : List Nat} {H : Nat} {μ μ0 : Mu} (hnd : ι.Nodup) (hlt : ∀ i ∈ ι, i < H) (i : Nat) : muP ι H μ μ0 (iot ι H i) = μ0 i := by
  unfold muP
  have h : ∃ k, iot ι H k = iot ι H i := ⟨i, rfl⟩
  rw [dif_pos h]
  rw [iot_inj hnd hlt h.choose_spec]
theorem muP_other {ι : List Nat} {H : Nat} {μ μ0 : Mu} {j : Nat} (h : ∀ i, iot ι H i ≠ j) : muP ι H μ μ0 j = μ j := by
  unfold muP
  rw [dif_neg (fun ⟨i, e⟩ => h i e)]
theorem muP_cases {ι : List Nat} {H : Nat} {μ μ0 : Mu} (hnd : ι.Nodup) (hlt : ∀ i ∈ ι, i < H) (j : Nat) : (∃ i, iot ι H i = j ∧ muP ι H μ μ0 j = μ0 i) ∨ ((∀ i, iot ι H i ≠ j) ∧ muP ι H μ μ0 j = μ j) := by
  by_cases h : ∃ i, iot ι H i = j
  · obtain ⟨i, rfl⟩ := h
    exact .inl ⟨i, rfl, muP_at hnd hlt i⟩
  · have h' : ∀ i, iot ι H i ≠ j := fun i e => h ⟨i, e⟩
    exact .inr ⟨h', muP_other h'⟩

theorem Sem.frame {P : Program} {g : FuncId} {args0 args : List V} {h0 h : Heap} {K0 K : V → Heap → Prop} (k : Sem P g args0 h0 K0) (ι : List Nat) (hl : ι.length = h0.length) (hnd : ι.Nodup) (hlt : ∀ i ∈ ι, i < h.length)
    (ha : args = args0.map (V.mv (iot ι h.length))) (hao : args0.all (V.under h0.length) = true)
    (hb : ∀ i k, hget h0 i = some k → Blk.ok h0.length (some k) = true ∧ hget h (iot ι h.length i) = Blk.mv (iot ι h.length) (some k))
    (hK : ∀ v h0', K0 v h0' → h0.length ≤ h0'.length ∧ v.under h0'.length = true ∧ (∀ k ∈ h0', Blk.ok h0'.length k = true) ∧ K (v.mv (iot ι h.length)) (plug ι h h0')) : Sem P g args h K := by
  subst ha
  refine ⟨fun φ μ B w cargs hB r hargs => ?_⟩
  -- the small heap's names
  let f := iot ι h.length
  let μ0 : Mu := fun i => if i < h0.length then μ (f i) else none
  have hμ0 : ∀ i, i < h0.length → μ0 i = μ (f i) := fun i hi => by simp only [μ0]; rw [if_pos hi]
  have hμ0n : ∀ i x, μ0 i = some x → i < h0.length ∧ μ (f i) = some x := fun i x hx => by
    simp only [μ0] at hx
    split at hx
    · rename_i hi; exact ⟨hi, hx⟩
    · cases hx
  have r0 : Rel φ μ0 B h0 w := by
    refine ⟨r.glob, r.cell, r.size, fun i j b x y hi hj => iot_inj hnd hlt (r.inj _ _ b x y (hμ0n i _ hi).2 (hμ0n j _ hj).2), fun i b x hi => ⟨(hμ0n i _ hi).1, (r.dom _ b x (hμ0n i _ hi).2).2⟩, fun i kk hk => ?_⟩
    obtain ⟨g1, g2⟩ := hb i kk hk
    have hi : i < h0.length := by
      unfold hget at hk
      rcases Nat.lt_or_ge i h0.length with hi | hi
      · exact hi
      · rw [List.getElem?_eq_none hi] at hk; cases hk
    obtain ⟨b, x, q1, q2⟩ := r.blk _ _ g2
    exact ⟨b, x, (hμ0 i hi).trans q1, blk_bwd hμ0 g1 q2⟩
  have ha0 : RvL φ μ0 args0 cargs := by
    obtain ⟨l, hv⟩ := hargs
    rw [List.length_map] at l
    refine ⟨l, fun j => ?_⟩
    have := hv j
    rw [getD_map rfl] at this
    by_cases hj : j < args0.length
    · exact mv_bwd hμ0 (all_getD hao hj) this
    · rw [List.getD_eq_getElem?_getD, List.getElem?_eq_none (by omega)]; exact .undef _ _
  refine (k.run φ μ0 B w cargs hB r0 ha0).mono ?_
  rintro e w' ⟨v, h0', φ', μ0', cv, he, hk, hv, r', hx, hf⟩
  obtain ⟨hlen, hvu, hbu, hK'⟩ := hK v h0' hk
  have hlen' : ι.length ≤ (h0'.map (Blk.mv f)).length := by rw [List.length_map]; omega
  obtain ⟨s0, s1, s2, s3⟩ := setAll_spec ι h (h0'.map (Blk.mv f)) hnd hlt hlen'
  rw [List.length_map] at s0
  let μ' : Mu := muP ι h.length μ μ0'
  have hμ' : ∀ i, μ' (f i) = μ0' i := fun i => muP_at hnd hlt i
  -- what μ names, μ' names so
  have hmu : μ.le μ' := fun j x hx0 => by
    rcases muP_cases (μ := μ) (μ0 := μ0') hnd hlt j with ⟨i, hi, hj⟩ | ⟨_, hj⟩
    · subst hi
      have hil : i < h0.length := by
        rcases Nat.lt_or_ge i ι.length with h1 | h1
        · omega
        · have := (r.dom _ x.1 x.2 hx0).1
          rw [iot_ge h1] at this; omega
      have h1 : μ0 i = some x := (hμ0 i hil).trans hx0
      show muP ι h.length μ μ0' _ = _ ∨ _
      rw [hj]
      rcases hx.mu i x h1 with h2 | ⟨m, b', m', h2, h3, h4⟩
      · exact .inl h2
      · exact .inr ⟨m, b', m', h2, (hμ' i).trans h3, h4⟩
    · exact .inl (hj.trans hx0)
  have hfw : ∀ i x, μ0' i = some x → μ' (f i) = some x := fun i x hi => (hμ' i).trans hi
  have hin : ∀ i, i < h0'.length → (i < ι.length ∧ f i < h.length) ∨ (ι.length ≤ i ∧ f i = h.length + (i - ι.length)) := fun i _ => by
    rcases Nat.lt_or_ge i ι.length with h1 | h1
    · exact .inl ⟨h1, hlt _ (List.mem_of_getElem? (iot_lt h1))⟩
    · exact .inr ⟨h1, iot_ge h1⟩
  have hgetp : ∀ i, hget (plug ι h h0') (f i) = Blk.mv f (hget h0' i) := fun i => by
    have hj : ∀ (n : Nat), ((h0'.map (Blk.mv f))[n]?).join = Blk.mv f (hget h0' n) := fun n => by
      rw [List.getElem?_map]
      unfold hget
      cases h0'[n]? with
      | none => rfl
      | some x => rfl
    rcases Nat.lt_or_ge i ι.length with h1 | h1
    · exact (s1 i _ (iot_lt h1)).trans (hj i)
    · have e : f i = h.length + (i - ι.length) := iot_ge h1
      rw [e]
      refine (s3 _ (by omega)).trans ?_
      rw [show h.length + (i - ι.length) - h.length + ι.length = i by omega]
      exact hj i
  -- blocks outside are not touched
  have hout : ∀ j b x, μ j = some (b, x) → (∀ i, f i ≠ j) → w'.heap[b]? = w.heap[b]? ∧ (∀ o v, φ'.cell b o = some v → φ.cell b o = some v) := fun j b x hj hne => by
    have hnm : ∀ i y, μ0 i ≠ some (b, y) := fun i y hi => hne i (r.inj _ _ b y x (hμ0n i _ hi).2 hj)
    refine ⟨hf.block b (r.dom j b x hj).2.1 hnm, fun o v hv => ?_⟩
    rcases hx.cells b o v hv with h1 | h1 | ⟨i, y, h1⟩
    · exact h1
    · have := (r.dom j b x hj).2.1; omega
    · exact absurd h1 (hnm i y)
  have rr : Rel φ' μ' B (plug ι h h0') w' := by
    refine ⟨r'.glob, r'.cell, r'.size, fun i j b x y hi hj => ?_, fun j b x hj => ?_, fun j kk hk => ?_⟩
    · rcases muP_cases (μ := μ) (μ0 := μ0') hnd hlt i with ⟨i', hi1, hi2⟩ | ⟨hi1, hi2⟩ <;> rcases muP_cases (μ := μ) (μ0 := μ0') hnd hlt j with ⟨j', hj1, hj2⟩ | ⟨hj1, hj2⟩
      · rw [← hi1, ← hj1]
        exact congrArg _ (r'.inj _ _ b x y (hi2.symm.trans hi) (hj2.symm.trans hj))
      · exfalso
        have h1 := hi2.symm.trans hi
        have h2 := hj2.symm.trans hj
        rcases hx.fresh i' b x h1 with ⟨z, h3⟩ | h3
        · exact hj1 i' (r.inj _ _ b z y (hμ0n _ _ h3).2 h2)
        · have := (r.dom _ _ _ h2).2.1; omega
      · exfalso
        have h1 := hi2.symm.trans hi
        have h2 := hj2.symm.trans hj
        rcases hx.fresh j' b y h2 with ⟨z, h3⟩ | h3
        · exact hi1 j' (r.inj _ _ b z x (hμ0n _ _ h3).2 h1)
        · have := (r.dom _ _ _ h1).2.1; omega
      · exact r.inj i j b x y (hi2.symm.trans hi) (hj2.symm.trans hj)
    · show j < (setAll h ι (h0'.map (Blk.mv f))).length ∧ _
      rw [s0]
      rcases muP_cases (μ := μ) (μ0 := μ0') hnd hlt j with ⟨i', hi1, hi2⟩ | ⟨hi1, hi2⟩
      · have h1 := r'.dom i' b x (hi2.symm.trans hj)
        rcases hin i' h1.1 with ⟨g1, g2⟩ | ⟨g1, g2⟩
        · exact ⟨by rw [← hi1]; show f i' < _; omega, h1.2⟩
        · exact ⟨by rw [← hi1]; show f i' < _; omega, h1.2⟩
      · have h1 := r.dom j b x (hi2.symm.trans hj)
        have := hf.size
        exact ⟨by omega, by omega, h1.2.2⟩
    · by_cases hj : ∃ i, f i = j
      · obtain ⟨i, rfl⟩ := hj
        rw [hgetp i] at hk
        cases hh : hget h0' i with
        | none => rw [hh] at hk; cases hk
        | some k0 =>
          rw [hh] at hk
          obtain ⟨b, x, q1, q2⟩ := r'.blk i k0 hh
          have hmem : some k0 ∈ h0' := by
            unfold hget at hh
            cases hq : h0'[i]? with
            | none => rw [hq] at hh; cases hh
            | some y => rw [hq] at hh; simp only [Option.join_some] at hh; subst hh; exact List.mem_of_getElem? hq
          simp only [Blk.mv, Option.some.injEq] at hk
          subst hk
          exact ⟨b, x, hfw i _ q1, blk_fwd hfw (hbu _ hmem) q2⟩
      · have hne : ∀ i, f i ≠ j := fun i e => hj ⟨i, e⟩
        have hjl : j < h.length := by
          rcases Nat.lt_or_ge j h.length with h1 | h1
          · exact h1
          · exact absurd (by rw [show f (j - h.length + ι.length) = _ from iot_ge (by omega)]; omega) (hne (j - h.length + ι.length))
        have hni : j ∉ ι := fun hm => by
          obtain ⟨i, hi, he⟩ := List.getElem_of_mem hm
          have := iot_lt (H := h.length) hi
          rw [List.getElem?_eq_getElem hi, he] at this
          exact hne i (Option.some.inj this).symm
        have : hget (plug ι h h0') j = hget h j := s2 j hjl hni
        rw [this] at hk
        obtain ⟨b, x, q1, q2⟩ := r.blk j kk hk
        obtain ⟨o1, o2⟩ := hout j b x q1 hne
        exact ⟨b, x, (muP_other hne).trans q1, q2.mono hx.phi hmu o1 o2⟩
  refine ⟨v.mv f, plug ι h h0', φ', μ', cv, he, hK', mv_fwd hfw hv hvu, rr, ⟨hx.phi, hmu, fun j b x hj => ?_, fun b o v hv => ?_⟩, ⟨hf.os, hf.tape, hf.output, hf.size, fun kb hk hn => ?_, hf.loops, hf.mono⟩⟩
  · rcases muP_cases (μ := μ) (μ0 := μ0') hnd hlt j with ⟨i', hi1, hi2⟩ | ⟨hi1, hi2⟩
    · rcases hx.fresh i' b x (hi2.symm.trans hj) with ⟨y, h1⟩ | h1
      · exact .inl ⟨y, hi1 ▸ (hμ0n _ _ h1).2⟩
      · exact .inr h1
    · exact .inl ⟨x, hi2.symm.trans hj⟩
  · rcases hx.cells b o v hv with h1 | h1 | ⟨i, y, h1⟩
    · exact .inl h1
    · exact .inr (.inl h1)
    · exact .inr (.inr ⟨_, y, (hμ0n _ _ h1).2⟩)
  · exact hf.block kb hk (fun i x hi => hn _ _ (hμ0n i _ hi).2)
end Go.Cx
namespace Go.Cx
open Go.RowKit

/-! ### The end of a call: blocks are renamed, dropped, handed out for good -/
section
variable {P : Program} {g : FuncId} {args : List V} {h : Heap} {K : V → Heap → Prop}

theorem hget_lt {h : Heap} {i : Nat} {k : Blk} (hk : hget h i = some k) : i < h.length := by
  unfold hget at hk
  rcases Nat.lt_or_ge i h.length with hi | hi
  · exact hi
  · rw [List.getElem?_eq_none hi] at hk; cases hk
theorem hget_mem {h : Heap} {i : Nat} {k : Blk} (hk : hget h i = some k) : some k ∈ h := by
  unfold hget at hk
  cases hq : h[i]? with
  | none => rw [hq] at hk; cases hk
  | some y => rw [hq] at hk; simp only [Option.join_some] at hk; subst hk; exact List.mem_of_getElem? hq

/-- The heap behind a call, in another order, with less in it: block i was block σ[i]. -/
theorem Sem.exit (k : Sem P g args h fun v h' => ∃ (σ : List Nat) (v2 : V) (h2 : Heap), σ.length = h2.length ∧ h.length ≤ h2.length ∧ σ.Nodup ∧ (∀ i, i < h.length → σ[i]? = some i) ∧ v = v2.mv (iot σ h'.length) ∧ v2.under h2.length = true ∧
      (∀ i k, hget h2 i = some k → Blk.ok h2.length (some k) = true ∧ hget h' (iot σ h'.length i) = Blk.mv (iot σ h'.length) (some k)) ∧ K v2 h2) : Sem P g args h K := by
  refine ⟨fun φ μ B w cargs hB r hargs => (k.run φ μ B w cargs hB r hargs).mono ?_⟩
  rintro e w' ⟨v, h', φ', μ', cv, he, ⟨σ, v2, h2, hl, hm, hnd, hid, rfl, hvu, hb, hK⟩, hv, r', hx, hf⟩
  let f := iot σ h'.length
  let μ2 : Mu := fun i => if i < h2.length then μ' (f i) else none
  have hμ2 : ∀ i, i < h2.length → μ2 i = μ' (f i) := fun i hi => by simp only [μ2]; rw [if_pos hi]
  have hμ2n : ∀ i x, μ2 i = some x → i < h2.length ∧ μ' (f i) = some x := fun i x hx => by
    simp only [μ2] at hx
    split at hx
    · rename_i hi; exact ⟨hi, hx⟩
    · cases hx
  have hinj : ∀ i j, i < h2.length → j < h2.length → f i = f j → i = j := fun i j hi hj he => by
    have h1 := iot_lt (H := h'.length) (show i < σ.length by omega)
    have h2 := iot_lt (H := h'.length) (show j < σ.length by omega)
    rw [List.getElem?_eq_getElem (show i < σ.length by omega), Option.some.injEq] at h1
    rw [List.getElem?_eq_getElem (show j < σ.length by omega), Option.some.injEq] at h2
    have hp := List.pairwise_iff_getElem.1 hnd
    rcases Nat.lt_trichotomy i j with hl | hl | hl
    · exact absurd (h1.trans (he.trans h2.symm)) (hp i j _ _ hl)
    · exact hl
    · exact absurd (h2.trans (he.symm.trans h1.symm)) (hp j i _ _ hl)
  have hfid : ∀ i, i < h.length → f i = i := fun i hi => by
    have h1 := iot_lt (H := h'.length) (show i < σ.length by omega)
    rw [hid i hi] at h1
    exact (Option.some.inj h1).symm
  have r2 : Rel φ' μ2 B h2 w' := by
    refine ⟨r'.glob, r'.cell, r'.size, fun i j b x y hi hj => hinj i j (hμ2n i _ hi).1 (hμ2n j _ hj).1 (r'.inj _ _ b x y (hμ2n i _ hi).2 (hμ2n j _ hj).2), fun i b x hi => ⟨(hμ2n i _ hi).1, (r'.dom _ b x (hμ2n i _ hi).2).2⟩, fun i kk hk => ?_⟩
    obtain ⟨g1, g2⟩ := hb i kk hk
    have hi := hget_lt hk
    obtain ⟨b, x, q1, q2⟩ := r'.blk _ _ g2
    exact ⟨b, x, (hμ2 i hi).trans q1, blk_bwd hμ2 g1 q2⟩
  refine ⟨v2, h2, φ', μ2, cv, he, hK, mv_bwd hμ2 hvu hv, r2, ⟨hx.phi, fun i x hi => ?_, fun i b x hi => ?_, hx.cells⟩, hf⟩
  rotate_left
  · rcases hx.fresh _ b x (hμ2n i _ hi).2 with ⟨y, hy⟩ | hy
    · have h1 := (r.dom _ _ _ hy).1
      have h2 := hfid _ h1
      have h3 := hinj _ _ (by omega) (hμ2n i _ hi).1 h2
      exact .inl ⟨y, h3 ▸ hy⟩
    · exact .inr hy
  have hil := (r.dom i x.1 x.2 hi).1
  have e : μ2 i = μ' i := by rw [hμ2 i (by omega), hfid i hil]
  rcases hx.mu i x hi with h1 | ⟨m, b', m', h1, h2, h3⟩
  · exact .inl (e.trans h1)
  · exact .inr ⟨m, b', m', h1, e.trans h2, h3⟩

/-- The heap behind a call, cut to what it was long, with less in it. -/
theorem Sem.cut (k : Sem P g args h fun v h' => ∃ (m : Nat) (h2 : Heap), h2.length = m ∧ h.length ≤ m ∧ m ≤ h'.length ∧ v.under m = true ∧ dropH (h'.take m) h2 ∧ h2.all (Blk.under m) = true ∧ K v h2) : Sem P g args h K := by
  refine ⟨fun φ μ B w cargs hB r hargs => (k.run φ μ B w cargs hB r hargs).mono ?_⟩
  rintro e w' ⟨v, h', φ', μ', cv, he, ⟨m, h2, hl, hm, hm', hvu, hd, hb, hK⟩, hv, r', hx, hf⟩
  have hdd : dropH h' (h2 ++ h'.drop m) := by
    have : ∀ (a b c : Heap), dropH a b → dropH (a ++ c) (b ++ c) := by
      intro a
      induction a with
      | nil => intro b c hd; cases b with
        | nil => exact dropH_refl c
        | cons => cases hd
      | cons x a ih => intro b c hd; cases b with
        | nil => cases hd
        | cons y b => exact ⟨hd.1, ih b c hd.2⟩
    have h3 := this _ _ (h'.drop m) hd
    rwa [List.take_append_drop] at h3
  have r1 := r'.less hdd
  have r2 := cut_rel r1 (m := m) (by simp; omega) (by rw [List.take_left' hl]; exact hb)
  rw [List.take_left' hl] at r2
  refine ⟨v, h2, φ', μ'.upto m, cv, he, hK, below_rv hv hvu, r2, ⟨hx.phi, fun i x hi => ?_, fun i b x hi => ?_, hx.cells⟩, hf⟩
  · have hil := (r.dom i x.1 x.2 hi).1
    have e : μ'.upto m i = μ' i := by unfold Mu.upto; rw [if_pos (by omega)]
    rcases hx.mu i x hi with h1 | ⟨m1, b', m', h1, h2, h3⟩
    · exact .inl (e.trans h1)
    · exact .inr ⟨m1, b', m', h1, e.trans h2, h3⟩
  · unfold Mu.upto at hi
    split at hi
    · exact hx.fresh i b x hi
    · cases hi
end

/-! ### Handing out for good -/
def frozC (φ : Phi) (b n : Nat) (c : Nat → Value) (h1 : ∀ t, t < n → (c t).oneCell' = true) : Phi := ⟨fun b' o => if b' = b ∧ o < n then some (c o) else φ.cell b' o, φ.size, fun b' o v h => by
  split at h
  · rename_i hb
    simp only [Option.some.injEq] at h
    subst h
    exact h1 o hb.2
  · exact φ.one b' o v h⟩

/-- What a block of cells holds that are free and one each. -/
def cellOk (v : V) : Bool := v.one && v.free1

theorem flat_get {sz : Nat} : ∀ (xs : List (List V)) (i j : Nat), (∀ x ∈ xs, x.length = sz) → i < xs.length → j < sz → xs.flatten.getD (i * sz + j) .undef = (xs.getD i []).getD j .undef
  | [], i, j, _, hi, _ => by simp at hi
  | x :: xs, 0, j, h, _, hj => by
    have := h x (List.mem_cons_self ..)
    simp only [List.flatten_cons, Nat.zero_mul, Nat.zero_add]
    rw [List.getD_eq_getElem?_getD, List.getElem?_append_left (by omega), ← List.getD_eq_getElem?_getD]
    rfl
  | x :: xs, i + 1, j, h, hi, hj => by
    have hx := h x (List.mem_cons_self ..)
    have ih := flat_get xs i j (fun y hy => h y (List.mem_cons_of_mem _ hy)) (by simpa using hi) hj
    simp only [List.flatten_cons]
    rw [List.getD_eq_getElem?_getD, List.getElem?_append_right (by rw [hx, Nat.succ_mul]; omega), ← List.getD_eq_getElem?_getD, show (i + 1) * sz + j - x.length = i * sz + j by rw [hx, Nat.succ_mul]; omega, ih]
    simp
theorem flat_size {sz : Nat} : ∀ (xs : List (List V)), (∀ x ∈ xs, x.length = sz) → xs.flatten.length = xs.length * sz
  | [], _ => by simp
  | x :: xs, h => by
    rw [List.flatten_cons, List.length_append, flat_size xs (fun y hy => h y (List.mem_cons_of_mem _ hy)), h x (List.mem_cons_self ..), List.length_cons, Nat.succ_mul]; omega

/-- Block id, of cells that are known, is given away: what it held stands for good. -/
theorem Rel.freeze {φ : Phi} {μ : Mu} {B : Nat} {h : Heap} {w : World} (r : Rel φ μ B h w) {id b : Nat} {x : Option Nat} {k : Blk} (hi : hget h id = some k) (hm : μ id = some (b, x)) {e : TypeId} {cs : List V}
    (hk : k = .cells e cs ∨ ∃ ver sz, k = .grow ver e sz cs) (hc : cs.all cellOk = true) :
    ∃ φ' : Phi, φ.le φ' ∧ Rel φ' μ B (h.set id none) w ∧ (∀ b' o v, φ'.cell b' o = some v → φ.cell b' o = some v ∨ b' = b) ∧ ∃ c : Nat → Value, ∀ t, t < cs.length → φ'.cell b t = some (c t) ∧ Rv φ' mu0 (cs.getD t .undef) (c t) := by
  obtain ⟨b', x', hm', hbr⟩ := r.blk id k hi
  have hbb : b' = b ∧ x' = x := by rw [hm] at hm'; simp at hm'; exact ⟨hm'.1.symm, hm'.2.symm⟩
  obtain ⟨rfl, rfl⟩ := hbb
  obtain ⟨c, h1, h2, h4, h5⟩ : ∃ c : Array Value, w.heap[b']? = some (.cells c e (0, 0)) ∧ cs.length ≤ c.size ∧ (∀ j, j < cs.length → Rv φ μ (cs.getD j .undef) (c.getD j Go.undef)) ∧ ∀ o, φ.cell b' o = none := by
    rcases hk with rfl | ⟨ver, sz, rfl⟩
    · obtain ⟨_, c, q1, q2, q3, q4⟩ := hbr
      exact ⟨c, q1, by omega, q3, q4⟩
    · obtain ⟨_, c, q1, q2, _, q3, q4⟩ := hbr
      exact ⟨c, q1, q2, q3, q4⟩
  have hof : ∀ t, t < cs.length → (cs.getD t .undef).one = true ∧ (cs.getD t .undef).free1 = true := fun t ht => by
    have := all_getD hc ht
    simpa [cellOk] using this
  have hone : ∀ t, t < cs.length → (c.getD t Go.undef).oneCell' = true := fun t ht => (one_cells (h4 t ht) (hof t ht).1).2
  have hle : φ.le (frozC φ b' cs.length (fun t => c.getD t Go.undef) hone) := ⟨fun b'' o v hv => by
    unfold frozC
    simp only
    rw [if_neg (fun e => by rw [e.1, h5 o] at hv; cases hv)]
    exact hv, fun _ _ hn => hn⟩
  refine ⟨frozC φ b' cs.length (fun t => c.getD t Go.undef) hone, hle, ?_, fun b'' o v hv => ?_, fun t => c.getD t Go.undef, fun t ht => ⟨?_, free1_rv ((h4 t ht).mono hle (Mu.le_refl _)) (hof t ht).2 _⟩⟩
  · refine ⟨fun g cs hg => (r.glob g cs hg).mono hle (Mu.le_refl _), fun b'' o v hv => ?_, r.size, r.inj, fun j b'' y hj => by rw [List.length_set]; exact r.dom j b'' y hj, fun j kb hk => ?_⟩
    · unfold frozC at hv
      simp only at hv
      split at hv
      · rename_i hb
        obtain ⟨rfl, ho⟩ := hb
        simp only [Option.some.injEq] at hv
        have hoc : o < c.size := by omega
        unfold World.cell?
        simp only [h1]
        rw [Array.getD_eq_getD_getElem?, Array.getElem?_eq_getElem hoc] at hv
        simp only [Option.getD_some] at hv
        simp [Array.getElem?_eq_getElem hoc, hv]
      · exact r.cell b'' o v hv
    · rw [hget_set] at hk
      split at hk
      · cases hk
      · rename_i hne
        obtain ⟨b'', y, q1, q2⟩ := r.blk j kb hk
        have hil : id < h.length := (r.dom id b' _ hm).1
        have hbb : b'' ≠ b' := fun e => hne ⟨r.inj id j b' _ _ hm (e ▸ q1), hil⟩
        refine ⟨b'', y, q1, q2.mono hle (Mu.le_refl _) rfl (fun o v hv => ?_)⟩
        unfold frozC at hv
        simp only at hv
        rw [if_neg (fun e => hbb e.1)] at hv
        exact hv
  · unfold frozC at hv
    simp only at hv
    split at hv
    · rename_i hb; exact .inr hb.1
    · exact .inl hv
  · unfold frozC
    simp only
    rw [if_pos ⟨trivial, ht⟩]

/-- What a call hands out is given away, be it made at once or grown. -/
def Frozen (v : V) (h' : Heap) (K : V → Heap → Prop) : Prop :=
  ∃ (id sz : Nat) (xs : List (List V)), (∀ x ∈ xs, x.length = sz) ∧ (∀ x ∈ xs, x.all cellOk = true) ∧ ((∃ e cap, v = .lsl id sz 0 xs.length cap ∧ hget h' id = some (.cells e xs.flatten)) ∨
    ∃ ver lo s ex e, v = .gsl id sz 0 xs.length lo ex ver ∧ hget h' id = some (.grow ver e s xs.flatten)) ∧ K (.psl sz xs .any) (h'.set id none)

theorem Sem.freezeV {P : Program} {g : FuncId} {args : List V} {h : Heap} {K : V → Heap → Prop} (k : Sem P g args h fun v h' => Frozen v h' K) : Sem P g args h K := by
  refine ⟨fun φ0 μ0 B w0 cargs hB r0 ha => (k.run φ0 μ0 B w0 cargs hB r0 ha).mono ?_⟩
  rintro en w ⟨v, h', φ, μ, cv, rfl, ⟨id, sz, xs, hl, hc, hvh, hK⟩, hv, r, hx, hf⟩
  have hca : xs.flatten.all cellOk = true := by
    rw [List.all_eq_true]
    intro y hy
    obtain ⟨x, hx, hyx⟩ := List.mem_flatten.1 hy
    exact List.all_eq_true.1 (hc x hx) y hyx
  have main : ∀ (b : Nat) (x : Option Nat) (k : Blk) (e : TypeId) (cap : Nat), hget h' id = some k → μ id = some (b, x) → (k = .cells e xs.flatten ∨ ∃ ver sz, k = .grow ver e sz xs.flatten) → xs.length ≤ cap → cv = .slice (some ⟨b, 0, none⟩) xs.length cap →
      Ret φ0 μ0 B w0 K (.returned cv) w := fun b x k e cap hi hm hk hcap hcv => by
    obtain ⟨φ', hle, r1, hcell, c, hcc⟩ := r.freeze hi hm hk hca
    have hfl := flat_size xs hl
    refine ⟨.psl sz xs .any, _, φ', μ, cv, rfl, hK, ?_, r1, ⟨Phi.le_trans hx.phi hle, hx.mu, hx.fresh, fun b' o v hv => ?_⟩, hf⟩
    · subst hcv
      have hlen : ∀ i, i < xs.length → (xs.getD i []).length = sz := fun i hi => by
        rw [List.getD_eq_getElem?_getD, List.getElem?_eq_getElem hi]; exact hl _ (List.getElem_mem hi)
      have hfg : ∀ i j, i < xs.length → j < sz → φ'.cell b (i * sz + j) = some (c (i * sz + j)) ∧ Rv φ' mu0 ((xs.getD i []).getD j .undef) (c (i * sz + j)) := fun i j hi hj => by
        have hlt : i * sz + j < xs.flatten.length := by
          rw [hfl]
          calc i * sz + j < i * sz + sz := by omega
            _ = (i + 1) * sz := by rw [Nat.succ_mul]
            _ ≤ xs.length * sz := Nat.mul_le_mul_right _ hi
        have := hcc _ hlt
        rw [flat_get xs i j hl hi hj] at this
        exact this
      exact Rv.psl μ sz xs .any b 0 cap (fun i j => c (i * sz + j)) hcap hlen (fun i j hi hj => by rw [Nat.zero_add]; exact (hfg i j hi hj).1) (fun i j hi hj => (hfg i j hi hj).2) trivial
    · rcases hcell b' o v hv with h1 | rfl
      · exact hx.cells b' o v h1
      · rcases hx.fresh id b' x hm with ⟨y, hy⟩ | hy
        · exact .inr (.inr ⟨id, y, hy⟩)
        · exact .inr (.inl hy)
  rcases hvh with ⟨e, cap, rfl, hi⟩ | ⟨ver, lo, s, ex, e, rfl, hi⟩
  · cases hv with
    | lsl _ _ _ _ _ _ b hm h' => exact main b none _ e cap hi hm (.inl rfl) h' rfl
  · obtain ⟨b0, x0, hm0, hb0⟩ := r.blk id _ hi
    cases hv with
    | gsl _ _ _ _ _ _ _ _ b m cc a g1 g2 g3 g4 g5 g6 =>
      have hx0 : x0 = some ver := hb0.1
      rw [hm0] at g1
      simp only [Option.some.injEq, Prod.mk.injEq] at g1
      obtain ⟨rfl, e1⟩ := g1
      rw [hx0] at e1
      simp only [Option.some.injEq] at e1
      obtain ⟨rfl, _⟩ := g6 e1
      exact main b0 x0 _ e cc hi hm0 (.inr ⟨_, _, rfl⟩) g3 rfl
end Go.Cx
