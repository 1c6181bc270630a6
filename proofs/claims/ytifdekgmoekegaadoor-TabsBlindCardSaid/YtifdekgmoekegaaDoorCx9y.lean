/- A calculus for calls of the program: canonical values and heaps, and what each operation, loop and call does to them; no condition on the program. -/
import Derived.Test.YtifdekgmoekegaaDoorCx9
namespace Go.Cx
open Go.RowKit

/-! ### The same, said of the machine itself: it may be weakened anywhere -/
structure Wp (P : Program) (T : Nat → Option TI) (c : Code) (env : List V) (h : Heap) (Q : X → List V → Heap → Prop) : Prop where
  run : ∀ (ρ : Option Nat) (φ : Phi) (μ : Mu) (B : Nat) (w : World) (a : Act), RoOk ρ w → B ≤ w.heap.size → Rel φ μ B h w → EnvR φ μ env a.tmps → c.wpIn (fen ρ) 0 P (PostC φ μ B w a.defers Q) a w

theorem Wp.of {P : Program} {T : Nat → Option TI} {md : Nat → Bool} {env : List V} {h : Heap} {Q : X → List V → Heap → Prop} (hT : TOk P T) {c : Code} (hk : wpC P T md c env h Q) : Wp P T c env h Q :=
  ⟨fun ρ φ μ B w a hro hB r he => wpC_ok hT ρ c env h Q φ μ B w a hro hB r he hk⟩

/-! ### A loop's record -/
def putAll : List V → List Nat → List V → List V
  | env, p :: ps, v :: vs => putAll (env.set p v) ps vs
  | env, _, _ => env

theorem putAll_ok {φ : Phi} {μ : Mu} : ∀ (ps : List Nat) (vs : List V) (cs : List Value) (env : List V) (tmps : Array Value), EnvR φ μ env tmps → vs.length = cs.length → (∀ j, j < vs.length → Rv φ μ (vs.getD j .undef) (cs.getD j Go.undef)) →
    EnvR φ μ (putAll env ps vs) ((ps.zip cs).foldl (fun tmps p => tmps.setIfInBounds p.1 p.2) tmps)
  | [], _, _, env, tmps, he, _, _ => by simpa [putAll] using he
  | _ :: _, [], [], env, tmps, he, _, _ => by simpa [putAll] using he
  | _ :: _, [], _ :: _, _, _, _, hl, _ => by simp at hl
  | _ :: _, _ :: _, [], _, _, _, hl, _ => by simp at hl
  | p :: ps, v :: vs, c :: cs, env, tmps, he, hl, hv => by
    have h0 := hv 0 (by simp)
    simp only [List.getD_cons_zero] at h0
    have h1 := EnvR.put (a := { tmps := tmps, defers := [] }) he h0 (some p)
    simp only [Act.put] at h1
    simp only [putAll, List.zip_cons_cons, List.foldl_cons]
    exact putAll_ok ps vs cs _ _ h1 (by simpa using hl) (fun j hj => by have := hv (j + 1) (by simp; omega); simpa using this)

def lB (env : List V) (ps : List Nat) (assign body : Code) (st : LoopState) (pend : Option Code) : Option Blk := some (.loop env ps assign body st pend)

theorem Rel.drop {φ : Phi} {μ : Mu} {B : Nat} {h : Heap} {w : World} (r : Rel φ μ B h w) (i : Nat) : Rel φ μ B (h.set i none) w := by
  refine ⟨r.glob, r.cell, r.size, r.inj, fun j b x hj => by rw [List.length_set]; exact r.dom j b x hj, fun j k hk => ?_⟩
  rw [hget_set] at hk
  split at hk
  · cases hk
  · exact r.blk j k hk

theorem Rel.setLoop {φ : Phi} {μ : Mu} {B : Nat} {h : Heap} {w : World} (r : Rel φ μ B h w) {i b : Nat} {env : List V} {ps : List Nat} {as bo : Code} {st : LoopState} {pd : Option Code} (hi : hget h i = some (.loop env ps as bo st pd)) (hb : μ i = some (b, none)) {rec : Loop} (hr : w.heap[b]? = some (.loop rec)) (st' : LoopState) (pd' : Option Code) :
    Rel φ μ B (h.set i (some (.loop env ps as bo st' pd'))) (w.putObj b (.loop { rec with state := st', pending := pd' })) := by
  obtain ⟨b', x', hb', h0, fn, tmps, d, h1, h2, h3⟩ := r.blk i _ hi
  have hbb : b' = b := by rw [hb] at hb'; simp at hb'; exact hb'.1.symm
  subst hbb
  have hbl : b' < w.heap.size := (Array.getElem?_eq_some_iff.1 hr).1
  have hil : i < h.length := (r.dom i b' _ hb).1
  rw [hr] at h1
  simp only [Option.some.injEq, Obj.loop.injEq] at h1
  subst h1
  refine ⟨r.glob, fun c q v hv => ?_, fun c n hn => ?_, r.inj, fun j c p hj => ?_, fun j k hk => ?_⟩
  · have g1 := r.cell c q v hv
    have hc : c ≠ b' := fun e => by subst e; simp only [World.cell?, hr] at g1; cases g1
    rw [← g1]
    exact World.cell?_of_block (World.putObj_heap_other hc)
  · obtain ⟨cs, e, fr, g1, g2⟩ := r.size c n hn
    have hc : c ≠ b' := fun e' => by subst e'; rw [hr] at g1; cases g1
    exact ⟨cs, e, fr, (World.putObj_heap_other hc).trans g1, g2⟩
  · rw [World.putObj_size, List.length_set]; exact r.dom j c p hj
  · rw [hget_set] at hk
    split at hk
    · rename_i hij
      obtain ⟨rfl, _⟩ := hij
      simp only [Option.some.injEq] at hk
      subst hk
      exact ⟨b', none, hb, rfl, fn, tmps, d, World.putObj_heap_same hbl, h2, h3⟩
    · rename_i hij
      obtain ⟨c, p, hc, hk'⟩ := r.blk j k hk
      have hne : c ≠ b' := fun e => hij ⟨r.inj i j b' _ _ hb (e ▸ hc), hil⟩
      exact ⟨c, p, hc, hk'.mono φ.le_refl (Mu.le_refl _) (World.putObj_heap_other hne) (fun _ _ h => h)⟩

theorem Fr.setLoop {μ : Mu} {w : World} {i b : Nat} (hb : μ i = some (b, none)) {rec rec' : Loop} (hr : w.heap[b]? = some (.loop rec)) : Fr μ w (w.putObj b (.loop rec')) := by
  refine ⟨rfl, rfl, rfl, by rw [World.putObj_size]; exact Nat.le_refl _, fun k _ hn => World.putObj_heap_other (fun e => hn i none (e ▸ hb)), fun k r hk => ?_⟩
  by_cases hkb : k = b
  · subst hkb
    exact ⟨rec', World.putObj_heap_same (Array.getElem?_eq_some_iff.1 hr).1⟩
  · exact ⟨r, (World.putObj_heap_other hkb).trans hk⟩

theorem hget_loop {φ : Phi} {μ : Mu} {B : Nat} {h : Heap} {w : World} (r : Rel φ μ B h w) {i b : Nat} {env : List V} {ps : List Nat} {as bo : Code} {st : LoopState} {pd : Option Code} (hi : hget h i = some (.loop env ps as bo st pd)) (hb : μ i = some (b, none)) :
    ∃ (fn : FuncId) (tmps : Array Value) (d : Nat), w.heap[b]? = some (.loop { state := st, pending := pd, fn := fn, tmps := tmps, params := ps.toArray, assign := as, body := bo, defers := d }) ∧ EnvR φ μ env tmps := by
  obtain ⟨b', x', hb', h0, fn, tmps, d, h1, h2, h3⟩ := r.blk i _ hi
  have hbb : b' = b := by rw [hb] at hb'; simp at hb'; exact hb'.1.symm
  subst hbb
  exact ⟨fn, tmps, d, h1, (RvA.toL ⟨h2, h3⟩).1, (RvA.toL ⟨h2, h3⟩).2⟩

/-- At a round's end. -/
def endR (id : Nat) (K : V → Heap → Prop) : X → List V → Heap → Prop := fun x _ h =>
  match hget h id with
  | some (.loop e ps as bo _ _) =>
    (match x with
    | .normal => forceH (h.set id (lB e ps as bo .ready none)) fun h' => K (.bool true) h'
    | .ret => forceH (h.set id (lB e ps as bo .done (some .ret))) fun h' => K (.bool false) h'
    | .exit i => forceH (h.set id (lB e ps as bo .done (some (.exit i)))) fun h' => K (.bool false) h')
  | _ => False

/-- Between the assignment and the body. -/
def midR (W : Code → WP) (id : Nat) (body : Code) (K : V → Heap → Prop) : X → List V → Heap → Prop := fun x env h =>
  match x with
  | .normal => (match hget h id with
    | some (.loop e ps as bo .ready pd) => forceH (h.set id (lB e ps as bo .busy pd)) fun h' => W body env h' (endR id K)
    | _ => False)
  | _ => False

theorem RoundP.intro {P : Program} {T : Nat → Option TI} {id : Nat} {args env : List V} {h : Heap} {ps : List Nat} {as bo : Code} {st : LoopState} {pd : Option Code} {K : V → Heap → Prop} (hi : hget h id = some (.loop env ps as bo st pd)) (hl : args.length = ps.length)
    (hk : Wp P T as (putAll env ps args) h (midR (Wp P T) id bo K)) : RoundP P id args h K := by
  refine ⟨fun φ μ B w cargs b hB r ha hb => ?_⟩
  obtain ⟨fn, tmps, d, hw, he⟩ := hget_loop r hi hb
  have hcl : cargs.size = ps.length := by rw [← ha.1]; exact hl
  refine ⟨_, _, _, _, run_yield hw (by simpa using hcl), ?_⟩
  simp only
  have heq : (ps.toArray.zip cargs).foldl (fun tmps (x : Nat × Value) => tmps.setIfInBounds x.1 x.2) tmps = (ps.zip cargs.toList).foldl (fun tmps p => tmps.setIfInBounds p.1 p.2) tmps := by
    rw [← Array.foldl_toList, Array.toList_zip]
  have he1 : EnvR φ μ (putAll env ps args) ((ps.toArray.zip cargs).foldl (fun tmps (x : Nat × Value) => tmps.setIfInBounds x.1 x.2) tmps) := by
    rw [heq]
    refine putAll_ok ps args cargs.toList env tmps he (by simpa using ha.1) (fun j hj => ?_)
    have := ha.2 j
    simpa using this
  refine roundIn_of_wpIn trivial ?_
  have hro : RoOk (some b) w := fun l e => by cases e; exact ⟨_, hw⟩
  refine wpIn_mono (hk.run (some b) φ μ B w { tmps := (ps.toArray.zip cargs).foldl (fun tmps (x : Nat × Value) => tmps.setIfInBounds x.1 x.2) tmps, defers := [] } hro hB r he1) ?_
  rintro e a1 w1 ⟨x, env1, h1, φ1, μ1, rfl, hq, hE1, r1, hx1, hf1, hd1⟩
  cases x with
  | exit i => cases hq
  | ret => cases hq
  | normal =>
    simp only [midR] at hq
    split at hq
    · rename_i e2 ps2 as2 bo2 pd2 hi2
      rw [forceH_eq] at hq
      have hb1 := Mu.le_plain hx1.mu hb
      obtain ⟨fn2, tmps2, d2, hw2, _⟩ := hget_loop r1 hi2 hb1
      have r2 := r1.setLoop hi2 hb1 hw2 .busy pd2
      have f2 := Fr.setLoop (rec' := { (⟨.ready, pd2, fn2, tmps2, ps2.toArray, as2, bo2, d2⟩ : Loop) with state := .busy }) hb1 hw2
      refine ⟨_, run_beginRound hw2 rfl, ?_⟩
      have hfr2 := hf1.trans hx1 f2
      refine wpIn_mono (hq.run (some b) φ1 μ1 B _ a1 (hro.fr hfr2) (Nat.le_trans hB hfr2.size) r2 hE1) ?_
      rintro e a3 w3 ⟨x, env3, h3, φ3, μ3, rfl, hq3, hE3, r3, hx3, hf3, hd3⟩
      unfold endR at hq3
      split at hq3
      · rename_i e3 ps3 as3 bo3 st3 pd3 hi3
        have hb3 := Mu.le_plain hx3.mu hb1
        obtain ⟨fn3, tmps3, d3, hw3, _⟩ := hget_loop r3 hi3 hb3
        have hx13 : Ext φ μ w φ3 μ3 := hx1.trans hfr2.size hx3
        have hf13 : Fr μ w w3 := hfr2.trans hx1 hf3
        have fin : ∀ (jump : Option Code) (st4 : LoopState), st4 = (if jump.isNone then .ready else .done) → K (.bool jump.isNone) (h3.set id (lB e3 ps3 as3 bo3 st4 jump)) → ∃ v w', (Instr.endRound b jump).run P w3 = .ok v w' ∧ ∃ v' h' φ' μ' cv, (Ending.returned v) = .returned cv ∧ K v' h' ∧ Rv φ' μ' v' cv ∧ Rel φ' μ' B h' w' ∧ Ext φ μ w φ' μ' ∧ Fr μ w w' := fun jump st4 e4 hK => by
          subst e4
          have f4 := Fr.setLoop (rec' := { (⟨st3, pd3, fn3, tmps3, ps3.toArray, as3, bo3, d3⟩ : Loop) with state := if jump.isNone then .ready else .done, pending := jump }) hb3 hw3
          exact ⟨_, _, run_endRound jump hw3, _, _, φ3, μ3, _, rfl, hK, .bool _ _, r3.setLoop hi3 hb3 hw3 _ _, hx13, hf13.trans hx13 f4⟩
        cases x with
        | normal => simp only [forceH_eq] at hq3; exact fin none _ rfl hq3
        | ret => simp only [forceH_eq] at hq3; exact fin (some .ret) _ rfl hq3
        | exit i => simp only [forceH_eq] at hq3; exact fin (some (.exit i)) _ rfl hq3
      · cases hq3
    · cases hq
end Go.Cx
