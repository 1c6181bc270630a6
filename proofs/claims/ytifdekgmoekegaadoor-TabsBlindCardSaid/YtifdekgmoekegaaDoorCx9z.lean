/- A calculus for calls of the program: canonical values and heaps, and what each operation, loop and call does to them; no condition on the program. -/
import Derived.Test.YtifdekgmoekegaaDoorCx9y
namespace Go.Cx
open Go.RowKit

def pendR (Q : X → List V → Heap → Prop) (env : List V) (h : Heap) (pd : Option Code) : Prop :=
  match pd with
  | none => Q .normal env h
  | some .ret => Q .ret env h
  | some (.exit i) => Q (.exit i) env h
  | _ => False

/-- When the function that is ranged over has come back. -/
def endF (env : List V) (id : Nat) (Q : X → List V → Heap → Prop) (h : Heap) : Prop :=
  match hget h id with
  | some (.loop _ _ _ _ .ready pd) | some (.loop _ _ _ _ .done pd) =>
    forceH (h.set id none) fun h' => pendR Q env h' pd
  | _ => False

theorem enter_ok {P : Program} {ρ : Option Nat} {w : World} (hro : RoOk ρ w) (fn : FuncId) (tmps : Array Value) (ps : Array Tmp) (as bo : Code) :
    ∃ (l : Nat) (ms : List Nat) (wA : World) (d : Nat), (Instr.enterLoop fn tmps ps as bo ρ).run P w = .ok (l, ms.map markOf) (wA.alloc (.loop { state := .ready, pending := none, fn := fn, tmps := tmps, params := ps, assign := as, body := bo, defers := d })) ∧ l = wA.heap.size ∧
      w.heap.size ≤ wA.heap.size ∧ (∀ k, k < w.heap.size → wA.heap[k]? = w.heap[k]?) ∧ wA.os = w.os ∧ wA.tape = w.tape ∧ wA.output = w.output ∧ ms.Nodup ∧ ∀ r ∈ ms, w.heap.size ≤ r ∧ wA.heap[r]? = some (.deferred (some [])) := by
  cases ρ with
  | none =>
    exact ⟨_, [w.heap.size], w.alloc (.deferred (some [])), w.heap.size, run_enterLoop_outer fn tmps ps as bo, by rw [alloc_size], by rw [alloc_size]; omega, fun k hk => alloc_old w _ hk, rfl, rfl, rfl, by simp, fun r hr => by
      simp only [List.mem_singleton] at hr
      subst hr
      exact ⟨Nat.le_refl _, alloc_new w _⟩⟩
  | some l0 =>
    obtain ⟨r0, h0⟩ := hro l0 rfl
    exact ⟨_, [], w, r0.defers, run_enterLoop_inner h0 fn tmps ps as bo, rfl, Nat.le_refl _, fun _ _ => rfl, rfl, rfl, rfl, List.nodup_nil, fun r hr => by cases hr⟩

/-- The function has a text. -/
def bodyB (P : Program) (g : FuncId) : Bool := match P.funcs[g]? with | some fn => fn.body.isSome && !(fn.name == "runtime.NumGoroutine") | none => false
theorem bodyB_ok {P : Program} {g : FuncId} (h : bodyB P g = true) : ∃ fn, P.funcs[g]? = some fn ∧ fn.body.isSome = true ∧ (fn.name == "runtime.NumGoroutine") = false := by
  unfold bodyB at h
  split at h
  · rename_i fn hf
    simp only [Bool.and_eq_true, Bool.not_eq_true'] at h
    exact ⟨fn, hf, h.1, h.2⟩
  · cases h

theorem RangeP.intro {P : Program} {T : Nat → Option TI} {f : Operand} {ps : Array Tmp} {as bo : Code} {env : List V} {h : Heap} {Q : X → List V → Heap → Prop} {g : FuncId} {first caps : List V} (hf : evE env f = .fn (.func g) first caps) (hbody : bodyB P g = true)
    (hk : fl2 (first ++ [.yld h.length] ++ caps) fun args => forceH (h ++ [lB env ps.toList as bo .ready none]) fun h' => Sem P g args h' fun _ h' => endF env h.length Q h') : RangeP P T f ps as bo env h Q := by
  rw [fl2_eq, forceH_eq] at hk
  refine ⟨fun ρ φ μ B w a hro hB r he => wpIn_rangeFunc ?_⟩
  intro fn _
  obtain ⟨l, ms, wA, d, hrun, hl, hs, hold, e1, e2, e3, hnd, hms⟩ := enter_ok (P := P) hro fn a.tmps ps as bo
  obtain ⟨rec, hrec⟩ : ∃ rec : Loop, rec = { state := .ready, pending := none, fn := fn, tmps := a.tmps, params := ps, assign := as, body := bo, defers := d } := ⟨_, rfl⟩
  rw [← hrec] at hrun
  have rA : Rel φ μ B h wA := r.grow hs hold
  have fA : Fr μ w wA := ⟨e1, e2, e3, hs, fun k hk _ => hold k hk, fun k q hq => ⟨q, (hold k (Array.getElem?_eq_some_iff.1 hq).1).trans hq⟩⟩
  have hBA : B ≤ wA.heap.size := Nat.le_trans hB hs
  have x1 : Ext φ μ wA φ (μ.add h.length wA.heap.size none) := Ext.alloc rA
  have hid : (μ.add h.length wA.heap.size none) h.length = some (wA.heap.size, none) := by unfold Mu.add; rw [if_pos rfl]
  have he1 : EnvR φ (μ.add h.length wA.heap.size none) env a.tmps := he.mono x1.phi x1.mu
  have r1 : Rel φ (μ.add h.length wA.heap.size none) B (h ++ [some (.loop env ps.toList as bo .ready none)]) (wA.alloc (.loop rec)) :=
    rA.allocB hBA (.loop rec) _ none ⟨rfl, fn, a.tmps, d, by rw [alloc_new, hrec], he.size, fun j _ => he1.rv j⟩
  have f1 : Fr μ wA (wA.alloc (.loop rec)) := Fr.alloc μ wA _
  have fAll : Fr μ w (wA.alloc (.loop rec)) := fA.trans (Ext.refl φ μ w) f1
  have xAll : Ext φ μ w φ (μ.add h.length wA.heap.size none) := (Ext.refl φ μ w).trans hs x1
  have hfv := he.eval r f
  rw [hf] at hfv
  generalize hcf : a.eval f = cf at hfv
  cases hfv with
  | fn _ _ _ _ c1 c2 l1 l2 h1 h2 =>
    have hA : RvL φ (μ.add h.length wA.heap.size none) (first ++ [.yld h.length] ++ caps) (c1 ++ #[.func (.yield l) #[] #[]] ++ c2) := by
      refine (RvA.app (RvA.app ⟨l1, fun j hj => (h1 j hj).mono x1.phi x1.mu⟩ ⟨rfl, fun j hj => ?_⟩) ⟨l2, fun j hj => (h2 j hj).mono x1.phi x1.mu⟩).toL
      simp at hj
      subst hj
      rw [hl]
      exact .yld _ _ _ hid
    have hcalls0 := hk.run φ (μ.add h.length wA.heap.size none) B (wA.alloc (.loop rec)) _ (Nat.le_trans hBA (by rw [alloc_size]; omega)) r1 hA
    have hent := callFunc_enter (P := P) (args := c1 ++ #[.func (.yield l) #[] #[]] ++ c2) (w := wA.alloc (.loop rec)) (bodyB_ok hbody)
    have hcalls := (hcalls0.elim (fun h => h.2) (fun ⟨v, h, _⟩ => by rw [hent] at h; cases h))
    refine ⟨l, ms.map markOf, _, { target := .fn (.func g) c2, args := c1 ++ #[.func (.yield l) #[] #[]] }, wA.alloc (.loop rec), g, c1 ++ #[.func (.yield l) #[] #[]] ++ c2, wA.alloc (.loop rec), hrun, ?_, fun _ _ => trivial, ?_, depth_fen, ?_⟩
    · have hc : ∀ v, a.eval (.const v) = v := fun _ => rfl
      simp [resolve, hcf, hc, Deferred.ofValue]
    · simp only [invoke]
      exact hent
    · rw [callsIn_fen]
      refine hcalls.mono ?_
      rintro e w3 ⟨v, h3, φ3, μ3, cv, rfl, hK, _, r3, x3, f3⟩
      unfold endF at hK
      have hb3 := Mu.le_plain x3.mu hid
      have hx13 : Ext φ μ w φ3 μ3 := xAll.trans fAll.size x3
      have hf13 : Fr μ w w3 := fAll.trans xAll f3
      have fin : ∀ (env' : List V) (ps' : List Nat) (as' bo' : Code) (st : LoopState) (pd : Option Code), hget h3 h.length = some (.loop env' ps' as' bo' st pd) → st ≠ .busy → pendR Q env (h3.set h.length none) pd → rangePost (fen ρ) 0 P l (PostC φ μ B w a.defers Q) { a with defers := ms.map markOf ++ a.defers } (.returned cv) w3 := fun env' ps' as' bo' st pd hi hst hq => by
        obtain ⟨fn3, tmps3, d3, hw3, _⟩ := hget_loop r3 hi hb3
        rw [← hl] at hw3
        have r4 := (r3.setLoop hi hb3 (hl ▸ hw3) .exhausted pd).drop h.length
        have f4 := Fr.setLoop (rec' := { (⟨st, pd, fn3, tmps3, ps'.toArray, as', bo', d3⟩ : Loop) with state := .exhausted }) hb3 (hl ▸ hw3)
        have hset : (h3.set h.length (some (.loop env' ps' as' bo' .exhausted pd))).set h.length none = h3.set h.length none := by simp
        rw [hset] at r4
        rw [← hl] at r4 f4
        have hf14 : Fr μ w (w3.putObj l (.loop { (⟨st, pd, fn3, tmps3, ps'.toArray, as', bo', d3⟩ : Loop) with state := .exhausted })) := hf13.trans hx13 f4
        have hmk : Mk μ3 w (w3.putObj l (.loop { (⟨st, pd, fn3, tmps3, ps'.toArray, as', bo', d3⟩ : Loop) with state := .exhausted })) a.defers (ms.map markOf ++ a.defers) := by
          refine ⟨ms, rfl, hnd, fun q hq' => ?_⟩
          obtain ⟨g1, g2⟩ := hms q hq'
          have hql : q < wA.heap.size := (Array.getElem?_eq_some_iff.1 g2).1
          have hn1 : ∀ i x, (μ.add h.length wA.heap.size none) i ≠ some (q, x) := fun i x hi' => by
            unfold Mu.add at hi'
            split at hi'
            · simp only [Option.some.injEq, Prod.mk.injEq] at hi'; omega
            · have := (r.dom i q x hi').2.1; omega
          have hn3 : ∀ i x, μ3 i ≠ some (q, x) := fun i x hi' => by
            rcases x3.fresh i q x hi' with ⟨y, hy⟩ | hy
            · exact hn1 i y hy
            · rw [alloc_size] at hy; omega
          refine ⟨g1, ?_, hn3⟩
          have hne : q ≠ l := by omega
          rw [World.putObj_heap_other hne, f3.block q (by rw [alloc_size]; omega) hn1, alloc_old wA _ hql]
          exact g2
        refine ⟨pd, _, run_endLoop hw3 hst, ?_⟩
        have hE := he.mono hx13.phi hx13.mu
        unfold pendR at hq
        split at hq
        · exact ⟨.normal, env, _, φ3, μ3, rfl, hq, hE, r4, hx13, hf14, hmk⟩
        · exact wpIn_ret ⟨.ret, env, _, φ3, μ3, rfl, hq, hE, r4, hx13, hf14, hmk⟩
        · exact wpIn_exit ⟨.exit _, env, _, φ3, μ3, rfl, hq, hE, r4, hx13, hf14, hmk⟩
        · cases hq
      split at hK
      · rename_i hi
        rw [forceH_eq] at hK
        exact fin _ _ _ _ _ _ hi (by simp) hK
      · rename_i hi
        rw [forceH_eq] at hK
        exact fin _ _ _ _ _ _ hi (by simp) hK
      · cases hK
end Go.Cx
