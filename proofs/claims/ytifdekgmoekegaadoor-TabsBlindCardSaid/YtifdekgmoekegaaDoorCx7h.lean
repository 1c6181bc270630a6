/- A calculus for calls of the program: canonical values and heaps, and what each operation, loop and call does to them; no condition on the program. -/
import Derived.Test.YtifdekgmoekegaaDoorCx7g
namespace Go.Cx
open Go.RowKit

section
variable {P : Program} {T : Nat → Option TI} (hT : TOk P T) {w : World}
include hT
theorem run_places (gs : Array Field) (fs : List (Nat × Nat)) (hgs : gs.toList.map (fun f => (f.offset, f.type)) = fs) (hall : (fs.all fun f => (T f.2).isSome) = true) :
    (gs.mapM fun f => (do pure (f.offset, ← sizeOf f.type) : Go.Sem (Nat × Nat))).run P w = .ok (fs.map fun f => (f.1, sizeT T f.2)).toArray w := by
  rw [Array.mapM_eq_mapM_toList]
  rw [List.all_eq_true] at hall
  have key : ∀ (l : List Field) (fs : List (Nat × Nat)), l.map (fun f => (f.offset, f.type)) = fs → (∀ f ∈ fs, (T f.2).isSome = true) →
      (l.mapM fun f => (do pure (f.offset, ← sizeOf f.type) : Go.Sem (Nat × Nat))).run P w = .ok (fs.map fun f => (f.1, sizeT T f.2)) w := by
    intro l
    induction l with
    | nil => intro fs h _; simp at h; subst h; rfl
    | cons f l ih =>
      intro fs h h1
      simp only [List.map_cons] at h
      subst h
      have hf := h1 (f.offset, f.type) (by simp)
      cases hti : T f.type with
      | none => rw [hti] at hf; cases hf
      | some ti =>
        obtain ⟨i, d, z, k⟩ := hT _ _ hti
        have hst : sizeT T f.type = ti.size := by simp [sizeT, hti]
        have := ih _ rfl (fun g hg => h1 g (by simp [hg]))
        simp only [List.mapM_cons, Sem.run_bind, run_sizeOf k.info, Result.andThen_ok, Sem.run_pure, this, k.size, List.map_cons, hst]
  have := key gs.toList fs hgs hall
  simp only [Sem.run_map, this]
  rfl

end

section
variable {P : Program} {T : Nat → Option TI} (hT : TOk P T) {φ : Phi} {μ : Mu} {B : Nat} {h : Heap} {w : World} (hB : B ≤ w.heap.size) (r : Rel φ μ B h w) {nid : Nat} {out : Out} (hc : out.c = true) (hnid : nid + out.nw ≤ h.length) (hfree : ∀ q, q < out.nw → μ (nid + q) = none)
include hT hB r hc hnid hfree

theorem opF_ok {md : Bool} {ev : Operand → V} {ρ : Operand → Value} (he : ∀ x, Rv φ μ (ev x) (ρ x)) (o : Oper) (hf : opF P T md ev (hget h) nid o.op = some out) : ∃ cv w', Ran P ρ o w cv w' ∧ OutR φ μ B h w nid out cv w' := by
  obtain ⟨dst, op, type, pos, after, guard⟩ := o
  have parts : ∀ (ps : Array (Nat × Operand)), (ps.toList.map fun p => (p.1, ev p.2)).length = (ps.map fun (i, x) => (i, ρ x)).toList.length ∧
      ∀ (j : Nat) (p : Nat × V) (q : Nat × Value), (ps.toList.map fun p => (p.1, ev p.2))[j]? = some p → (ps.map fun (i, x) => (i, ρ x)).toList[j]? = some q → p.1 = q.1 ∧ Rv φ μ p.2 q.2 := fun ps => by
    refine ⟨by simp, fun j p q hp hq => ?_⟩
    simp only [List.getElem?_map] at hp
    simp only [Array.toList_map, List.getElem?_map] at hq
    cases hx : ps.toList[j]? with
    | none => rw [hx] at hp; cases hp
    | some x =>
      rw [hx] at hp hq
      simp only [Option.map_some, Option.some.injEq] at hp hq
      subst hp; subst hq
      exact ⟨rfl, he x.2⟩
  have pure : ∀ {op : Op}, (match pureO T ev op with | some (c, v) => some (⟨c, v, [], [], 0⟩ : Out) | none => none) = some out → ∃ cv w', Ran P ρ ⟨dst, op, type, pos, after, guard⟩ w cv w' ∧ OutR φ μ B h w nid out cv w' := fun {op} hp => by
    split at hp
    · rename_i c v hv
      simp only [Option.some.injEq] at hp
      subst hp
      obtain ⟨cv, g1, g2⟩ := pureO_ok (P := P) hT he ⟨dst, op, type, pos, after, guard⟩ w hv hc
      exact ⟨cv, w, .inl g1, OutR.same r g2 rfl⟩
    · cases hp
  cases op
  case alloc t =>
    simp only [opF] at hf
    split at hf
    · rename_i ti hti
      obtain ⟨i, d, z, k⟩ := hT t ti hti
      split at hf
      · rename_i cs hcs
        simp only [Option.some.injEq] at hf
        subst hf
        have hfr0 := hfree 0 (by simp)
        rw [Nat.add_zero] at hfr0
        exact ⟨.pointer (some ⟨w.heap.size, 0, none⟩), w.alloc (.cells z.cells t), .inl (by simp only [execOp, Instr.alloc, run_zeroValue k.info k.zero, newVar, newRow, run_newObj', Sem.run_bind, Sem.run_pure, Result.andThen_ok]),
          OutR.cells r hB (by simp only at hnid; omega) hfr0 rfl rfl (cellsOf_ok (k.zrv φ μ) hcs) (.ptr _ _ _ _ (by unfold Mu.add; rw [if_pos rfl]))⟩
      · cases hf
    · cases hf
  case box t x =>
    simp only [opF] at hf
    split at hf
    · rename_i cs hcs
      simp only [Option.some.injEq] at hf
      subst hf
      have hfr0 := hfree 0 (by simp)
      rw [Nat.add_zero] at hfr0
      exact ⟨.pointer (some ⟨w.heap.size, 0, none⟩), w.alloc (.cells (ρ x).cells t), .inl (by simp only [execOp, Instr.box, newVar, newRow, run_newObj', Sem.run_bind, Sem.run_pure, Result.andThen_ok]),
        OutR.cells r hB (by simp only at hnid; omega) hfr0 rfl rfl (cellsOf_ok (he x) hcs) (.ptr _ _ _ _ (by unfold Mu.add; rw [if_pos rfl]))⟩
    · cases hf
  case load t x =>
    obtain ⟨cv, g1, g2⟩ := loadF_ok hT r hc (he x) hf
    exact ⟨cv, w, .inl (by simp only [execOp, g1, Sem.run_bind, Result.andThen_ok, Sem.run_pure]), g2⟩
  case store t x y =>
    obtain ⟨w', g1, g2⟩ := storeF_ok hT r hc (he x) (he y) hf
    exact ⟨Go.undef, w', .inr ⟨by simp only [execOp, g1, Sem.run_bind, Result.andThen_ok, Sem.run_pure], rfl⟩, g2⟩
  case build t ps =>
    simp only [opF] at hf
    obtain ⟨hl, hr⟩ := parts ps
    generalize (ps.toList.map fun p => (p.1, ev p.2)) = pl at hf hl hr
    split at hf
    · rename_i v hv
      simp only [Option.some.injEq] at hf
      subst hf
      have key : ∃ cv, (Instr.build t (ps.map fun (i, x) => (i, ρ x))).run P w = .ok cv w ∧ Rv φ μ v cv := by
        unfold buildV at hv
        split at hv
        · rename_i ti hti
          obtain ⟨i, d, z, k⟩ := hT t ti hti
          have hz := k.zrv φ μ
          split at hv
          · rename_i fs zc hk' hzc
            rw [hzc] at hz
            obtain ⟨zc', rfl, hzA⟩ := hz.agg_inv
            obtain ⟨gs, rfl, hgs⟩ := kind_struct (show kindOk (.struct fs) d = true from hk' ▸ k.kind)
            cases hall : (fs.all fun f => (T f.2).isSome) with
            | false => rw [hall] at hv; cases hv
            | true =>
              rw [hall] at hv
              simp only [cond_true] at hv
              split at hv
              · rename_i cs hcs
                simp only [Option.some.injEq] at hv; subst hv
                have hplaces := run_places hT (w := w) gs fs hgs hall
                obtain ⟨c', h1, h2⟩ := fillV_ok _ pl _ _ _ _ hzA hl hr hcs
                refine ⟨.agg c', ?_, h2.agg⟩
                have hfun : (fun (i : Nat) => (fs.map fun f => (f.1, sizeT T f.2)).toArray[i]?) = (fun (i : Nat) => (fs.map fun f => (f.1, sizeT T f.2))[i]?) := by funext i; simp
                rw [← hfun] at h1
                simp only [Instr.build, Sem.run_bind, run_zeroValue k.info k.zero, Result.andThen_ok, run_underlying k.und, hplaces]
                have hcells : (Value.agg zc').cells = zc' := rfl
                rw [hcells, h1]
                rfl
              · cases hv
          · rename_i m e zc hk' hzc
            rw [hzc] at hz
            obtain ⟨zc', rfl, hzA⟩ := hz.agg_inv
            have hd := kind_arr (show kindOk (.arr m e) d = true from hk' ▸ k.kind)
            subst hd
            split at hv
            · rename_i ei hei
              obtain ⟨i2, d2, z2, k2⟩ := hT e ei hei
              split at hv
              · rename_i cs hcs
                simp only [Option.some.injEq] at hv; subst hv
                obtain ⟨c', h1, h2⟩ := fillV_ok _ pl _ _ _ _ hzA hl hr hcs
                refine ⟨.agg c', ?_, h2.agg⟩
                rw [← k2.size] at h1
                simp only [Instr.build, Sem.run_bind, run_zeroValue k.info k.zero, Result.andThen_ok, run_underlying k.und, run_sizeOf k2.info]
                have hcells : (Value.agg zc').cells = zc' := rfl
                rw [hcells, h1]
                rfl
              · cases hv
            · cases hv
          · cases hv
        · cases hv
      obtain ⟨cv, g1, g2⟩ := key
      exact ⟨cv, w, .inl (by simp only [execOp, g1, Sem.run_bind, Result.andThen_ok, Sem.run_pure]), OutR.same r g2 rfl⟩
    · cases hf
  case buildSlice t n ps =>
    obtain ⟨hl, hr⟩ := parts ps
    obtain ⟨cv, w', g1, g2⟩ := buildSliceF_ok hT hB r hc hnid hfree hl hr hf
    exact ⟨cv, w', .inl (by simp only [execOp, g1, Sem.run_bind, Result.andThen_ok, Sem.run_pure]), g2⟩
  case makeSlice t l c =>
    obtain ⟨cv, w', g1, g2⟩ := makeSliceF_ok hT hB r hc hnid hfree (he l) (he c) hf
    exact ⟨cv, w', .inl (by simp only [execOp, g1, Sem.run_bind, Result.andThen_ok, Sem.run_pure]), g2⟩
  case convert s d x =>
    obtain ⟨cv, g1, g2⟩ := convF_ok r hc hT (he x) hf
    exact ⟨cv, w, .inl (by simp only [execOp, g1, Sem.run_bind, Result.andThen_ok, Sem.run_pure]), g2⟩
  case makeMap t rs =>
    cases rs with
    | some x => exact pure hf
    | none =>
      simp only [opF, Option.some.injEq] at hf
      subst hf
      have hfr0 := hfree 0 (by simp)
      rw [Nat.add_zero] at hfr0
      exact ⟨.map (some w.heap.size), w.alloc (.map #[] 0), .inl (by simp only [execOp, Instr.makeMap, Option.map_none, run_newObj', Sem.run_bind, Sem.run_pure, Result.andThen_ok]),
        OutR.new (k := .mapc [] 0) (x := none) r hB (by simp only at hnid; omega) hfr0 rfl rfl ⟨rfl, #[], [], alloc_new w _, rfl, fun j x y hx => (by simp at hx), .refl _, List.nodup_nil, fun x hx => by cases hx⟩ (.map _ _ _ (by unfold Mu.add; rw [if_pos rfl]))⟩
  case insert t m k v =>
    obtain ⟨w', g1, g2⟩ := insertF_ok hT r hc (he m) (he k) (he v) hf
    exact ⟨Go.undef, w', .inr ⟨by simp only [execOp, g1, Sem.run_bind, Result.andThen_ok, Sem.run_pure], rfl⟩, g2⟩
  case mapUpdate t m k v =>
    obtain ⟨w', g1, g2⟩ := insertF_ok hT r hc (he m) (he k) (he v) hf
    exact ⟨Go.undef, w', .inr ⟨by simp only [execOp, g1, Sem.run_bind, Result.andThen_ok, Sem.run_pure], rfl⟩, g2⟩
  case lookup t m k ok =>
    obtain ⟨cv, g1, g2⟩ := lookupF_ok hT r hc (he m) (he k) hf
    exact ⟨cv, w, .inl (by simp only [execOp, g1, Sem.run_bind, Result.andThen_ok, Sem.run_pure]), g2⟩
  case range t x =>
    obtain ⟨cv, w', g1, g2⟩ := rangeF_ok hT r hc hB hnid hfree (he x) hf
    exact ⟨cv, w', .inl (by simp only [execOp, g1, Sem.run_bind, Result.andThen_ok, Sem.run_pure]), g2⟩
  case next it b =>
    cases b with
    | false => exact pure hf
    | true =>
      obtain ⟨cv, w', g1, g2⟩ := nextStrF_ok (P := P) (ty := type) r (he it) hf
      exact ⟨cv, w', .inl (by simp only [execOp, g1, Sem.run_bind, Result.andThen_ok, Sem.run_pure]), g2⟩
  case entry it =>
    obtain ⟨cv, g1, g2⟩ := entryF_ok (P := P) r hc (he it) hf
    exact ⟨cv, w, .inl (by simp only [execOp, g1, Sem.run_bind, Result.andThen_ok, Sem.run_pure]), g2⟩
  case call c =>
    obtain ⟨callee, args, ts⟩ := c
    cases callee with
    | value f => simp only [opF] at hf; cases hf
    | invoke a b => simp only [opF] at hf; cases hf
    | builtin b =>
      obtain ⟨hl, hr⟩ := evL he args
      have e2 : ∀ {x y : V}, args.toList.map ev = [x, y] → ∃ cx cy, args.map ρ = #[cx, cy] ∧ Rv φ μ x cx ∧ Rv φ μ y cy := fun {x y} hx => by
        have hs : args.toList.length = 2 := by have := congrArg List.length hx; simpa using this
        match hargs : args.toList, hs with
        | [p, q], _ =>
          rw [hargs] at hx
          simp only [List.map_cons, List.map_nil, List.cons.injEq, and_true] at hx
          obtain ⟨rfl, rfl⟩ := hx
          have hca : args = #[p, q] := by rw [← Array.toArray_toList (xs := args), hargs]
          exact ⟨ρ p, ρ q, by rw [hca]; simp, he p, he q⟩
      have e1 : ∀ {x : V}, args.toList.map ev = [x] → ∃ cx, args.map ρ = #[cx] ∧ Rv φ μ x cx := fun {x} hx => by
        have hs : args.toList.length = 1 := by have := congrArg List.length hx; simpa using this
        match hargs : args.toList, hs with
        | [p], _ =>
          rw [hargs] at hx
          simp only [List.map_cons, List.map_nil, List.cons.injEq, and_true] at hx
          obtain rfl := hx
          have hca : args = #[p] := by rw [← Array.toArray_toList (xs := args), hargs]
          exact ⟨ρ p, by rw [hca]; simp, he p⟩
      have t0 : ∀ {t : Nat} {tr : List Nat}, ts.toList = t :: tr → ts[0]? = some t := fun ht => by rw [← Array.getElem?_toList, ht]; rfl
      have fin : ∀ {cv : Value} {w' : World}, (∀ cs, (builtin b ts type cs (args.map ρ)).run P w = .ok (.value cv) w') → OutR φ μ B h w nid out cv w' → ∃ cv w', Ran P ρ ⟨dst, .call ⟨.builtin b, args, ts⟩, type, pos, after, guard⟩ w cv w' ∧ OutR φ μ B h w nid out cv w' := fun hb ho => ⟨_, _, .inl (run_builtin rfl hb), ho⟩
      have pureB : (match pv (builtinV T b ts.toList (args.toList.map ev)) with | some (c, v) => some (⟨c, v, [], [], 0⟩ : Out) | none => none) = some out → ∃ cv w', Ran P ρ ⟨dst, .call ⟨.builtin b, args, ts⟩, type, pos, after, guard⟩ w cv w' ∧ OutR φ μ B h w nid out cv w' := fun hp => pure hp
      cases b
      case append =>
        simp only [opF] at hf
        split at hf
        · rename_i t xt s x ht hx
          obtain ⟨cs, cx, ha, hs, hx⟩ := e2 hx
          have htt : ts = #[t, xt] := by rw [← Array.toArray_toList (xs := ts), ht]
          obtain ⟨cv, w', g1, g2⟩ := appendF_ok (ty := type) hT hB r hc hnid hfree hs hx hf
          exact fin (fun _ => by simp only [builtin, Sem.run_bind, ha, htt, g1, Result.andThen_ok, Sem.run_pure]) g2
        · cases hf
      case copy =>
        simp only [opF] at hf
        split at hf
        · rename_i t tr d x ht hx
          obtain ⟨cs, cx, ha, hs, hx⟩ := e2 hx
          obtain ⟨cv, w', g1, g2⟩ := copyF_ok (ty := type) hT r hc (t0 ht) hs hx hf
          exact fin (fun _ => by simp only [builtin, Sem.run_bind, ha, g1, Result.andThen_ok, Sem.run_pure]) g2
        · cases hf
      case clear =>
        simp only [opF] at hf
        split at hf
        · rename_i t tr d ht hx
          obtain ⟨cd, ha, hd⟩ := e1 hx
          obtain ⟨cv, w', g1, g2⟩ := clearF_ok (ty := type) hT r hc (t0 ht) hd hf
          exact fin (fun _ => by simp only [builtin, Sem.run_bind, ha, g1, Result.andThen_ok, Sem.run_pure]) g2
        · cases hf
      case unsafeString =>
        simp only [opF] at hf
        split at hf
        · rename_i t it p n ht hx
          obtain ⟨cs, cx, ha, hs, hx⟩ := e2 hx
          have htt : ts = #[t, it] := by rw [← Array.toArray_toList (xs := ts), ht]
          obtain ⟨cv, w', g1, g2⟩ := unsafeStrF_ok (it := it) (ty := type) r hc hs hx hf
          exact fin (fun _ => by simp only [builtin, Sem.run_bind, ha, htt, g1, Result.andThen_ok, Sem.run_pure]) g2
        · cases hf
      all_goals exact pureB hf
  all_goals exact pure hf
end
end Go.Cx
