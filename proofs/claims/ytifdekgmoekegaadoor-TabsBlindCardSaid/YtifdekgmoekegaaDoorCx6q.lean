/- A calculus for calls of the program: canonical values and heaps, and what each operation, loop and call does to them; no condition on the program. -/
import Derived.Test.YtifdekgmoekegaaDoorCx6p
namespace Go.Cx
open Go.RowKit

theorem run_builtin {P : Program} {ρ : Operand → Value} {o : Oper} {b : Builtin} {args : Array Operand} {ts : Array TypeId} {w w' : World} {cv : Value} (ho : o.op = .call ⟨.builtin b, args, ts⟩) (hb : ∀ cs, (builtin b ts o.type cs (args.map ρ)).run P w = .ok (.value cv) w') : (execOp ρ o).run P w = .ok (.value cv) w' := by
  unfold execOp
  simp only [ho, resolve, invoke, Sem.run_bind, Sem.run_pure, Result.andThen_ok]
  exact hb _

theorem pureO_ok {P : Program} {T : Nat → Option TI} (hT : TOk P T) {φ : Phi} {μ : Mu} {ev : Operand → V} {ρ : Operand → Value} (he : ∀ x, Rv φ μ (ev x) (ρ x)) (o : Oper) (w : World) {b : Bool} {v : V} (h : pureO T ev o.op = some (b, v)) (hb : b = true) :
    ∃ c, (execOp ρ o).run P w = .ok (.value c) w ∧ Rv φ μ v c := by
  obtain ⟨dst, op, type, pos, after, guard⟩ := o
  have vok : ∀ {x : Option V}, pv x = some (b, v) → x = some v := fun {x} hx => by
    cases x with
    | none => cases hx
    | some x => simp only [pv, Option.some.injEq, Prod.mk.injEq] at hx; rw [hx.2]
  have mo : ∀ (x : Option Operand), (match x.map ev, x.map ρ with | none, none => True | some a, some b => Rv φ μ a b | _, _ => False) := fun x => by
    cases x with
    | none => trivial
    | some x => exact he x
  cases op <;> simp only [pureO, reduceCtorEq] at h
  case move x => simp only [Option.some.injEq, Prod.mk.injEq] at h; obtain ⟨_, rfl⟩ := h; exact ⟨_, rfl, he x⟩
  case assign x => simp only [Option.some.injEq, Prod.mk.injEq] at h; obtain ⟨_, rfl⟩ := h; exact ⟨_, rfl, he x⟩
  case pick c a b' =>
    split at h
    · rename_i t ht
      have hc := he c
      rw [ht] at hc
      generalize hcc : ρ c = cc at hc
      cases hc
      simp only [Option.some.injEq, Prod.mk.injEq] at h; obtain ⟨_, rfl⟩ := h
      refine ⟨if t then ρ a else ρ b', ?_, ?_⟩
      · simp [execOp, hcc, asBool]
      · cases t
        · exact he b'
        · exact he a
    · cases h
  case binOp op t x y ty => exact binO_ok hT rfl h hb (he x) (he y)
  case unOp op t x =>
    replace h := vok h
    have hx := he x
    generalize ev x = vx at h hx
    generalize hcx : ρ x = cx at hx
    unfold unV at h
    split at h <;> first | (cases h; done) | skip
    all_goals
      simp only [Option.some.injEq] at h; subst h
      cases hx
      exact ⟨_, by simp only [execOp, hcx]; rfl, by constructor⟩
  case convert s d x =>
    replace h := vok h
    have hx := he x
    generalize ev x = vx at h hx
    generalize hcx : ρ x = cx at hx
    unfold convV at h
    split at h
    · rename_i si ti hs ht
      obtain ⟨i1, d1, z1, k1⟩ := hT _ _ hs
      obtain ⟨i2, d2, z2, k2⟩ := hT _ _ ht
      split at h
      · rename_i k k' n hk
        simp only [Option.some.injEq] at h; subst h
        have hd := kind_int (show kindOk (.int k) d2 = true from hk ▸ k2.kind)
        subst hd
        cases hx
        refine ⟨_, ?_, .int _ _ _⟩
        simp only [execOp, hcx, convert, Sem.run_bind, run_underlying k1.und, run_underlying k2.und, Result.andThen_ok]
        cases d1 <;> rfl
      · rename_i s hk
        simp only [Option.some.injEq] at h; subst h
        have hd := kind_str (show kindOk .str d2 = true from hk ▸ k2.kind)
        subst hd
        cases hx
        refine ⟨.string s, ?_, .str _ _⟩
        simp only [execOp, hcx, convert, Sem.run_bind, run_underlying k1.und, run_underlying k2.und, Result.andThen_ok]
        cases d1 <;> rfl
      · cases h
    · cases h
  case makeFunc fn first caps =>
    simp only [Option.some.injEq, Prod.mk.injEq] at h; obtain ⟨_, rfl⟩ := h
    exact ⟨_, rfl, .fn _ _ _ _ _ _ (evL he first).1 (evL he caps).1 (evL he first).2 (evL he caps).2⟩
  case nilCheck x =>
    have hx := he x
    generalize ev x = vx at h hx
    generalize hcx : ρ x = cx at hx
    split at h <;> first | (cases h; done) | (simp only [Option.some.injEq, Prod.mk.injEq] at h; obtain ⟨_, rfl⟩ := h)
    · cases hx; rename_i b hb
      exact ⟨_, by simp only [execOp, hcx]; rfl, .ptr _ _ _ _ hb⟩
    · cases hx with
      | gptr _ _ _ _ b m a g1 g2 g3 => exact ⟨_, by simp only [execOp, hcx]; rfl, .gptr _ _ _ _ b m a g1 g2 g3⟩
    · cases hx; rename_i b off c h1 h2
      exact ⟨_, by simp only [execOp, hcx]; rfl, .iptr _ _ _ _ c h1 h2⟩
    · cases hx with
      | fn _ _ _ _ cf cc l1 l2 h1 h2 => exact ⟨_, by simp only [execOp, hcx]; rfl, .fn _ _ _ _ _ _ l1 l2 h1 h2⟩
  case slice t x lo hi mx =>
    obtain ⟨cv, h1, h2⟩ := sliceO_ok (P := P) hT w (he x) (mo lo) (mo hi) (mo mx) h hb
    exact ⟨cv, by simp only [execOp, h1, Sem.run_bind, Result.andThen_ok, Sem.run_pure], h2⟩
  case index t x i =>
    obtain ⟨cv, h1, h2⟩ := indexO_ok (P := P) hT w (he x) (he i) h hb
    exact ⟨cv, by simp only [execOp, h1, Sem.run_bind, Result.andThen_ok, Sem.run_pure], h2⟩
  case indexAddr t x i =>
    obtain ⟨cv, h1, h2⟩ := indexAddrO_ok (P := P) hT w (he x) (he i) h hb
    exact ⟨cv, by simp only [execOp, h1, Sem.run_bind, Result.andThen_ok, Sem.run_pure], h2⟩
  case fieldAddr s x f =>
    have hx := he x
    generalize ev x = vx at h hx
    generalize hcx : ρ x = cx at hx
    have key : ∀ (o ft : Nat) (a : Addr), fieldV T s f = some (o, ft) → cx = .pointer (some a) →
        (execOp ρ ⟨dst, .fieldAddr s x f, type, pos, after, guard⟩).run P w = .ok (.value (.pointer (some (a.add o)))) w := fun o ft a hf hc => by
      obtain ⟨fs, g, i, h1, h2, h3, h4, h5, h6⟩ := fieldV_ok hT hf
      subst h3; subst h4
      simp only [execOp, hcx, hc, Instr.fieldAt, Instr.sureAddr, Sem.run_bind, run_underlying h1, Result.andThen_ok, h2, Sem.run_pure, fieldPlace, run_sizeOf h5, h6, if_false]
    have ad : ∀ (b o q : Nat), (⟨b, o, none⟩ : Addr).add q = ⟨b, o + q, none⟩ := fun b o q => by
      simp only [Addr.add]; split <;> simp_all
    split at h
    · rename_i o ft i q hf
      simp only [Option.some.injEq, Prod.mk.injEq] at h; obtain ⟨_, rfl⟩ := h
      cases hx; rename_i b hb
      exact ⟨_, key o ft _ hf rfl, by rw [ad]; exact .ptr _ _ _ _ hb⟩
    · rename_i o ft i q ver hf
      simp only [Option.some.injEq, Prod.mk.injEq] at h; obtain ⟨_, rfl⟩ := h
      cases hx with
      | gptr _ _ _ _ b m a g1 g2 g3 => exact ⟨_, key o ft _ hf rfl, .gptr _ _ _ _ b m _ g1 g2 (fun e => by rw [g3 e, ad])⟩
    · rename_i o ft cs hf
      simp only [Option.some.injEq, Prod.mk.injEq] at h; obtain ⟨_, rfl⟩ := h
      cases hx; rename_i b off c h1 h2
      refine ⟨_, key o ft _ hf rfl, ?_⟩
      rw [ad]
      refine .iptr _ _ _ _ (fun j => c (o + j)) (fun j hj => ?_) (fun j hj => ?_)
      · simp at hj; have := h1 (o + j) (by omega); rwa [← Nat.add_assoc] at this
      · simp at hj
        have := h2 (o + j) (by omega)
        have e : (cs.drop o).getD j .undef = cs.getD (o + j) .undef := by simp [List.getElem?_drop]
        rw [e]; exact this
    · cases h
  case field s x f =>
    have hx := he x
    generalize ev x = vx at h hx
    generalize hcx : ρ x = cx at hx
    split at h
    · rename_i o ft cs hf
      replace h := vok h
      obtain ⟨fs, g, i, h1, h2, h3, h4, h5, h6⟩ := fieldV_ok hT hf
      subst h3; subst h4
      obtain ⟨c, rfl, hA⟩ := hx.agg_inv
      obtain ⟨cv, h7, h8⟩ := part_ok hT hA h w
      refine ⟨cv, ?_, h8⟩
      simp only [execOp, hcx, Instr.field, Sem.run_bind, run_underlying h1, Result.andThen_ok, h2, asAgg, Sem.run_pure, h7]
    · cases h
  case extract x i =>
    have hx := he x
    generalize ev x = vx at h hx
    generalize hcx : ρ x = cx at hx
    split at h
    · replace h := vok h
      obtain ⟨c, rfl, hA⟩ := hx.tup_inv
      obtain ⟨cv, h1, h2⟩ := hA.get h
      exact ⟨cv, by simp only [execOp, hcx, Instr.extract, h1, Sem.run_bind, Sem.run_pure, Result.andThen_ok], h2⟩
    · cases h
  case call c =>
    obtain ⟨callee, args, ts⟩ := c
    cases callee <;> simp only [reduceCtorEq] at h
    rename_i b'
    replace h := vok h
    obtain ⟨hl, hr⟩ := evL he args
    unfold builtinV at h
    have hexec : ∀ cv, (∀ cs, (builtin b' ts type cs (args.map ρ)).run P w = .ok (.value cv) w) → (execOp ρ ⟨dst, .call ⟨.builtin b', args, ts⟩, type, pos, after, guard⟩).run P w = .ok (.value cv) w := fun cv hb => run_builtin rfl hb
    have hargs : (args.map ρ).toList.length = (args.toList.map ev).length := by simp
    have first : ∀ {x : V} {xr : List V}, args.toList.map ev = x :: xr → ∃ c0, (args.map ρ)[0]? = some c0 ∧ Rv φ μ x c0 := fun {x xr} hx => by
      have hpos : 0 < (args.map ρ).size := by rw [← hl, hx]; simp
      have hx0 : (args.map ρ)[0]? = some (args.map ρ)[0] := Array.getElem?_eq_getElem hpos
      have hrv := hr 0 (by rw [hx]; simp)
      rw [hx] at hrv
      simp only [List.getD_cons_zero] at hrv
      have e2 : (args.map ρ).getD 0 Go.undef = (args.map ρ)[0] := by simp only [Array.getD, hpos, dif_pos]; rfl
      rw [e2] at hrv
      exact ⟨_, hx0, hrv⟩
    split at h
    · rename_i t tr x xr ht hx
      have ht0 : ts[0]? = some t := by rw [← Array.getElem?_toList, ht]; rfl
      obtain ⟨c0, hx0, hrv⟩ := first hx
      obtain ⟨cv, h1, h2⟩ := lenV_ok hT (ty := type) ht0 hx0 h hrv w
      exact ⟨cv, hexec cv (fun cs => by simp only [builtin, Sem.run_bind, h1, Result.andThen_ok, Sem.run_pure]), h2⟩
    · rename_i t tr x xr ht hx
      have ht0 : ts[0]? = some t := by rw [← Array.getElem?_toList, ht]; rfl
      obtain ⟨c0, hx0, hrv⟩ := first hx
      obtain ⟨cv, h1, h2⟩ := capV_ok hT (ty := type) ht0 hx0 h hrv w
      exact ⟨cv, hexec cv (fun cs => by simp only [builtin, Sem.run_bind, h1, Result.andThen_ok, Sem.run_pure]), h2⟩
    · rename_i k a r hx
      have hcl : ∃ c cs, (args.map ρ).toList = c :: cs := by
        cases hq : (args.map ρ).toList with
        | nil => rw [hx, hq] at hargs; simp at hargs
        | cons c cs => exact ⟨c, cs, rfl⟩
      obtain ⟨c, cs, hcs⟩ := hcl
      have eg : ∀ j, (args.map ρ).getD j Go.undef = (c :: cs).getD j Go.undef := fun j => by rw [← hcs]; simp
      have hlen : r.length = cs.length := by rw [hx, hcs] at hargs; simp at hargs; omega
      have h0 := hr 0 (by rw [hx]; simp)
      rw [hx, eg] at h0
      simp only [List.getD_cons_zero] at h0
      obtain ⟨cv, h1, h2⟩ := minV_ok (P := P) w r cs _ v c h h0 hlen (fun j hj => by
        have := hr (j + 1) (by rw [hx]; simp; omega)
        rw [hx, eg] at this
        simpa using this)
      refine ⟨cv, hexec cv (fun _ => ?_), h2⟩
      simp only [builtin, Builtin.min_, Sem.run_bind, hcs, h1, Result.andThen_ok, Sem.run_pure]
    · rename_i k a r hx
      have hcl : ∃ c cs, (args.map ρ).toList = c :: cs := by
        cases hq : (args.map ρ).toList with
        | nil => rw [hx, hq] at hargs; simp at hargs
        | cons c cs => exact ⟨c, cs, rfl⟩
      obtain ⟨c, cs, hcs⟩ := hcl
      have eg : ∀ j, (args.map ρ).getD j Go.undef = (c :: cs).getD j Go.undef := fun j => by rw [← hcs]; simp
      have hlen : r.length = cs.length := by rw [hx, hcs] at hargs; simp at hargs; omega
      have h0 := hr 0 (by rw [hx]; simp)
      rw [hx, eg] at h0
      simp only [List.getD_cons_zero] at h0
      obtain ⟨cv, h1, h2⟩ := maxV_ok (P := P) w r cs _ v c h h0 hlen (fun j hj => by
        have := hr (j + 1) (by rw [hx]; simp; omega)
        rw [hx, eg] at this
        simpa using this)
      refine ⟨cv, hexec cv (fun _ => ?_), h2⟩
      simp only [builtin, Builtin.max_, Sem.run_bind, hcs, h1, Result.andThen_ok, Sem.run_pure]
    · rename_i x hx
      obtain ⟨c0, hx0, hrv⟩ := first hx
      have hone : args.map ρ = #[c0] := by
        have hs : (args.map ρ).size = 1 := by rw [← hl, hx]; rfl
        apply Array.ext
        · simp [hs]
        · intro i h1 h2
          have : i = 0 := by simp at h2; exact h2
          subst this
          have := Array.getElem?_eq_getElem h1
          rw [hx0] at this
          simpa using this.symm
      obtain ⟨cv, h1, h2⟩ := dataV_ok (P := P) (ts := ts) (ty := type) h hrv w
      refine ⟨cv, hexec cv (fun cs => ?_), h2⟩
      rw [hone]
      simp only [builtin, Sem.run_bind, h1, Result.andThen_ok, Sem.run_pure]
    · cases h
end Go.Cx
