/- A calculus for calls of the program: canonical values and heaps, and what each operation, loop and call does to them; no condition on the program. -/
import Derived.Test.YtifdekgmoekegaaDoorCx7f
import Derived.RangeFuncRecord
namespace Go.Cx
open Go.RowKit

theorem plain_check {P : Program} {t : Nat} {ti : TI} {i : TypeInfo} {d : TypeDesc} {z : Value} (k : tiOk P t ti i d z) (h : plainK ti.k = true) (e : Bool) (n : Nat) (c : Value) (w : World) : (Instr.checkKey e (n + 1) t c).run P w = .ok () w := by
  have hd : d = .bool ∨ (∃ q, d = .int q) ∨ d = .string := by
    have hk := k.kind
    cases hkk : ti.k <;> rw [hkk] at h hk <;> first | (cases h; done) | exact .inl (kind_bool hk) | exact .inr (.inl ⟨_, kind_int hk⟩) | exact .inr (.inr (kind_str hk))
  rcases hd with rfl | ⟨q, rfl⟩ | rfl <;> simp [Instr.checkKey, run_underlying k.und]

theorem keyOk_ok {P : Program} {T : Nat → Option TI} (hT : TOk P T) {φ : Phi} {μ : Mu} {t : Nat} {v : V} {c : Value} (h : keyOk T t v = true) (hv : Rv φ μ v c) (e : Bool) (w : World) : (Instr.checkKey e 10000 t c).run P w = .ok () w := by
  unfold keyOk at h
  split at h
  · rename_i ti hti
    obtain ⟨i, d, z, k⟩ := hT t ti hti
    split at h
    · rename_i fs cs hk
      obtain ⟨gs, rfl, hgs⟩ := kind_struct (show kindOk (.struct fs) d = true from hk ▸ k.kind)
      obtain ⟨xs, rfl, hA⟩ := hv.agg_inv
      rw [List.all_eq_true] at h
      have key : ∀ l : List Field, (∀ f ∈ l, (f.offset, f.type) ∈ fs) → (forIn l PUnit.unit (fun f (_ : PUnit) => (if f.name ≠ "_" then (do
            let x ← part f.type xs f.offset
            Instr.checkKey e 9999 f.type x
            pure (ForInStep.yield PUnit.unit)) else pure (ForInStep.yield PUnit.unit) : Go.Sem (ForInStep PUnit)))).run P w = .ok PUnit.unit w := by
        intro l
        induction l with
        | nil => intro _; rfl
        | cons f l ih =>
          intro hm
          have hf := h _ (hm f (by simp))
          simp only at hf
          split at hf
          · rename_i fi hfi
            obtain ⟨i2, d2, z2, k2⟩ := hT _ _ hfi
            simp only [Bool.and_eq_true] at hf
            have hlt := nblt_t hf.2
            have hltx : f.offset < xs.size := by rw [← hA.1]; exact hlt
            have hc : xs[f.offset]? = some xs[f.offset] := Array.getElem?_eq_getElem hltx
            have hd2 : descAgg d2 = false := by
              rw [isAggK_eq k2.kind]
              have := hf.1
              cases hkk : fi.k <;> rw [hkk] at this <;> first | rfl | (cases this; done)
            have hpart : (part f.type xs f.offset).run P w = .ok xs[f.offset] w := by
              simp only [part, Sem.run_bind, run_isAgg k2.und, hd2, Result.andThen_ok, Bool.false_eq_true, if_false, hc, Sem.run_pure]
            have hck := plain_check k2 hf.1 e 9998 xs[f.offset] w
            rw [List.forIn_cons]
            have ih' := ih (fun g hg => hm g (by simp [hg]))
            by_cases hn : f.name ≠ "_"
            · simp only [if_pos hn, Sem.run_bind, hpart, Result.andThen_ok, hck, Sem.run_pure, ih']
            · simp only [if_neg hn, Sem.run_bind, Result.andThen_ok, Sem.run_pure, ih']
          · cases hf
      have hall := key gs.toList (fun f hf => by rw [← hgs, List.mem_map]; exact ⟨f, hf, rfl⟩)
      rw [Array.forIn_toList] at hall
      have e1 : Instr.checkKey e 10000 t (.agg xs) = (do
        match ← underlying t, (Value.agg xs) with
        | .interface _, .iface d x =>
          let info ← typeInfo d
          if !info.comparable then
            if e then runtimePanic (.unhashable d)
            runtimePanic (.error ("hash of unhashable type " ++ (← typeStr d)))
          Instr.checkKey e 9999 d x
        | .array len elem, .agg cs =>
          for i in [0:len] do Instr.checkKey e 9999 elem (← part elem cs (i * (← sizeOf elem)))
        | .struct fields, .agg cs =>
          for f in fields do
            if f.name ≠ "_" then Instr.checkKey e 9999 f.type (← part f.type cs f.offset)
        | .interface _, .nilIface => pure ()
        | .interface _, _ | .array _ _, _ | .struct _, _ => stuck "map key: not a value of its type"
        | _, _ => pure ()) := rfl
      rw [e1]
      simp only [Sem.run_bind, run_underlying k.und, Result.andThen_ok]
      rw [hall]
      rfl
    · exact plain_check k h e 9999 c w
  · cases h


/-- Entries, one for one. -/
def EntR (φ : Phi) (μ : Mu) (es : List (V × V × Nat)) (cs : List MapEntry) : Prop := cs.length = es.length ∧ ∀ (j : Nat) (x : V × V × Nat) (y : MapEntry), es[j]? = some x → cs[j]? = some y → Rv φ μ x.1 y.key ∧ Rv φ μ x.2.1 y.val ∧ x.2.2 = y.born

theorem EntR.cons {φ : Phi} {μ : Mu} {e : V × V × Nat} {es : List (V × V × Nat)} {cs : List MapEntry} (h : EntR φ μ (e :: es) cs) : ∃ c cs', cs = c :: cs' ∧ Rv φ μ e.1 c.key ∧ Rv φ μ e.2.1 c.val ∧ e.2.2 = c.born ∧ EntR φ μ es cs' := by
  cases cs with
  | nil => have := h.1; simp at this
  | cons c cs =>
    obtain ⟨h1, h2, h3⟩ := h.2 0 e c rfl rfl
    exact ⟨c, cs, rfl, h1, h2, h3, by have := h.1; simpa using this, fun j x y hx hy => h.2 (j + 1) x y (by simpa using hx) (by simpa using hy)⟩

def FoundR (φ : Phi) (μ : Mu) (q : Option V) (a : Option (Nat × Value)) : Prop := match q, a with | none, none => True | some v, some (_, c) => Rv φ μ v c | _, _ => False

theorem find_ok {P : Program} {T : Nat → Option TI} (hT : TOk P T) {φ : Phi} {μ : Mu} {kt : Nat} {k : V} {ck : Value} (hk : Rv φ μ k ck) (w : World) : ∀ (es : List (V × V × Nat)) (cs : List MapEntry) (i : Nat) (q : Option V), EntR φ μ es cs → findV T kt k es = some q →
    (∃ a, (Instr.findAsking kt ck cs i).run P w = .ok a w ∧ (∀ d, P.underlying kt = some d → ∀ b, Instr.findNow d ck cs i = some b → b = a) ∧ FoundR φ μ q a)
  | [], cs, i, q, hE, hf => by
    have : cs = [] := List.length_eq_zero_iff.1 (by have := hE.1; simpa using this)
    subst this
    simp only [findV, Option.some.injEq] at hf
    subst hf
    exact ⟨none, rfl, fun d _ b hb => by simp [Instr.findNow] at hb; exact hb.symm, trivial⟩
  | e :: es, cs, i, q, hE, hf => by
    obtain ⟨c, cs', rfl, h1, h2, h3, hE'⟩ := hE.cons
    simp only [findV] at hf
    have heq : ∀ b, eqV T 12 kt k e.1 = some b → (Op.equal kt ck c.key).run P w = .ok b w := fun b hb => eqV_ok hT w 12 10000 kt _ _ b _ _ (by omega) hb hk h1
    have now : ∀ b, eqV T 12 kt k e.1 = some b → ∀ d, P.underlying kt = some d → ∀ b', Instr.sameNow d ck c.key = some b' → b' = b := fun b hb d hd b' hb' => by
      have h4 := heq b hb
      have eqn : ∀ (x y : Value) (q : Bool), (∀ n, (Op.equalIn (n + 1) kt x y).run P w = .ok q w) → (Op.equal kt x y).run P w = .ok b w → q = b := fun x y q h1 h2 => by
        rw [show Op.equal kt x y = Op.equalIn (9999 + 1) kt x y from rfl, h1 9999] at h2
        simp only [Result.ok.injEq] at h2
        exact h2.1
      unfold Instr.sameNow at hb'
      split at hb'
      · rename_i k1 a1 k2 a2 hck
        split at hb'
        · rename_i hkk
          subst hkk
          simp only [Option.some.injEq] at hb'
          rw [hck] at h4
          rw [← hb']
          exact eqn _ _ _ (fun n => by simp [Op.equalIn, run_underlying hd]) h4
        · cases hb'
      · rename_i hck
        simp only [Option.some.injEq] at hb'
        rw [hck] at h4
        rw [← hb']
        exact eqn _ _ _ (fun n => by simp [Op.equalIn, run_underlying hd]) h4
      · rename_i hck
        simp only [Option.some.injEq] at hb'
        rw [hck] at h4
        rw [← hb']
        exact eqn _ _ _ (fun n => by simp [Op.equalIn, run_underlying hd]) h4
      · cases hb'
    split at hf
    · rename_i hb
      simp only [Option.some.injEq] at hf
      subst hf
      refine ⟨some (i, c.val), ?_, fun d hd b hb' => ?_, h2⟩
      · simp only [Instr.findAsking, Sem.run_bind, heq _ hb, Result.andThen_ok, if_true, Sem.run_pure]
      · simp only [Instr.findNow] at hb'
        split at hb'
        · simpa using hb'.symm
        · rename_i hn
          have := now _ hb d hd _ hn
          cases this
        · cases hb'
    · rename_i hb
      obtain ⟨a, g1, g2, g3⟩ := find_ok hT hk w es cs' (i + 1) q hE' hf
      refine ⟨a, ?_, fun d hd b hb' => ?_, g3⟩
      · simp only [Instr.findAsking, Sem.run_bind, heq _ hb, Result.andThen_ok, Bool.false_eq_true, if_false, g1]
      · simp only [Instr.findNow] at hb'
        split at hb'
        · rename_i hn
          have := now _ hb d hd _ hn
          cases this
        · exact g2 d hd b hb'
        · cases hb'
    · cases hf

theorem findKey_ok {P : Program} {T : Nat → Option TI} (hT : TOk P T) {φ : Phi} {μ : Mu} {kt : Nat} {d : TypeDesc} (hd : P.underlying kt = some d) {k : V} {ck : Value} (hk : Rv φ μ k ck) (w : World) {es : List (V × V × Nat)} {cs : Array MapEntry} {q : Option V} (hE : EntR φ μ es cs.toList) (hf : findV T kt k es = some q) :
    ∃ a, (Instr.findKey kt ck cs.toList).run P w = .ok a w ∧ FoundR φ μ q a := by
  obtain ⟨a, h1, h2, h3⟩ := find_ok hT hk w es cs.toList 0 q hE hf
  refine ⟨a, ?_, h3⟩
  simp only [Instr.findKey, Sem.run_bind, run_underlying hd, Result.andThen_ok]
  split
  · rename_i b hb
    rw [h2 d hd b hb]
    rfl
  · exact h1

section
variable {P : Program} {T : Nat → Option TI} (hT : TOk P T) {φ : Phi} {μ : Mu} {B : Nat} {h : Heap} {w : World} (hB : B ≤ w.heap.size) (r : Rel φ μ B h w) {nid : Nat} {out : Out} (hc : out.c = true) (hnid : nid + out.nw ≤ h.length) (hfree : ∀ q, q < out.nw → μ (nid + q) = none)
include r

theorem hget_map {i b clock : Nat} {es : List (V × V × Nat)} (hi : hget h i = some (.map es clock)) (hb : μ i = some (b, none)) : ∃ c : Array MapEntry, w.heap[b]? = some (.map c clock) ∧ EntR φ μ es c.toList := by
  obtain ⟨b', x', hb', h0, c, h1, h2, h3⟩ := r.blk i _ hi
  rw [hb] at hb'
  simp only [Option.some.injEq, Prod.mk.injEq] at hb'
  obtain ⟨rfl, _⟩ := hb'
  exact ⟨c, h1, by simpa using h2, fun j x y hx hy => h3 j x y hx (by simpa using hy)⟩

theorem hget_mapc {i b clock : Nat} {es : List (V × V)} (hi : hget h i = some (.mapc es clock)) (hb : μ i = some (b, none)) : ∃ (c : Array MapEntry) (fs : List (V × V × Nat)), w.heap[b]? = some (.map c clock) ∧ EntR φ μ fs c.toList ∧ (fs.map fun x => (x.1, x.2.1)).Perm es ∧ (fs.map fun x => x.2.2).Nodup ∧ ∀ x ∈ fs, x.2.2 < clock := by
  obtain ⟨b', x', hb', h0, c, fs, h1, h2, h3, h4⟩ := r.blk i _ hi
  rw [hb] at hb'
  simp only [Option.some.injEq, Prod.mk.injEq] at hb'
  obtain ⟨rfl, _⟩ := hb'
  exact ⟨c, fs, h1, ⟨by simpa using h2, fun j x y hx hy => h3 j x y hx (by simpa using hy)⟩, h4⟩

omit r in
theorem hits_perm {T : Nat → Option TI} {kt : Nat} {k : V} {l l' : List (V × V)} (hp : l.Perm l') : ∀ {a : List V}, hitsV T kt k l = some a → ∃ a', hitsV T kt k l' = some a' ∧ a.Perm a' := by
  induction hp with
  | nil => exact fun h => ⟨_, h, .refl _⟩
  | cons x _ ih =>
    intro a h
    simp only [hitsV] at h ⊢
    split at h
    · rename_i l1 hb h1
      obtain ⟨a', g1, g2⟩ := ih h1
      simp only [Option.some.injEq] at h
      rw [hb, g1]
      exact ⟨_, rfl, by rw [← h]; exact g2.cons _⟩
    · rename_i l1 hb h1
      obtain ⟨a', g1, g2⟩ := ih h1
      simp only [Option.some.injEq] at h
      rw [hb, g1]
      exact ⟨_, rfl, by rw [← h]; exact g2⟩
    · cases h
  | swap x y l =>
    intro a h
    simp only [hitsV] at h ⊢
    generalize eqV T 12 kt k x.1 = bx at h ⊢
    generalize eqV T 12 kt k y.1 = bb at h ⊢
    generalize hitsV T kt k l = m at h ⊢
    cases bx with
    | none => cases bb with
      | none => cases h
      | some bb => cases bb <;> cases h
    | some bx =>
      cases m with
      | none => cases bb with
        | none => cases bx <;> cases h
        | some bb => cases bx <;> cases bb <;> cases h
      | some m =>
        cases bb with
        | none => cases bx <;> cases h
        | some bb =>
          cases bx <;> cases bb <;> (simp only [Option.some.injEq] at h ⊢; subst h; refine ⟨_, rfl, ?_⟩)
          · exact .refl _
          · exact .refl _
          · exact .refl _
          · exact .swap _ _ _
  | trans _ _ ih1 ih2 =>
    intro a h
    obtain ⟨a1, g1, g2⟩ := ih1 h
    obtain ⟨a2, g3, g4⟩ := ih2 g1
    exact ⟨a2, g3, g2.trans g4⟩

omit r in
theorem hits_find {T : Nat → Option TI} {kt : Nat} {k : V} : ∀ {fs : List (V × V × Nat)}, (hitsV T kt k (fs.map fun x => (x.1, x.2.1)) = some [] → findV T kt k fs = some none) ∧ ∀ v, hitsV T kt k (fs.map fun x => (x.1, x.2.1)) = some [v] → findV T kt k fs = some (some v)
  | [] => ⟨fun _ => rfl, fun v h => by simp [hitsV] at h⟩
  | f :: fs => by
    obtain ⟨i1, i2⟩ := hits_find (T := T) (kt := kt) (k := k) (fs := fs)
    refine ⟨fun h => ?_, fun v h => ?_⟩
    · simp only [List.map_cons, hitsV] at h
      simp only [findV]
      split at h
      · simp at h
      · rename_i hb hl
        simp only [Option.some.injEq] at h
        subst h
        rw [hb]
        exact i1 hl
      · cases h
    · simp only [List.map_cons, hitsV] at h
      simp only [findV]
      split at h
      · rename_i hb hl
        simp only [Option.some.injEq, List.cons.injEq] at h
        rw [hb, h.1]
      · rename_i hb hl
        simp only [Option.some.injEq] at h
        subst h
        rw [hb]
        exact i2 v hl
      · cases h

omit r in
/-- The key's place is one's own to choose. -/
theorem insK_eq (k v : V) : ∀ (es : List (V × V)), ∃ n, insK k v es = es.take n ++ (k, v) :: es.drop n
  | [] => ⟨0, rfl⟩
  | e :: es => by
    unfold insK
    cases ltL (encV k) (encV e.1) with
    | true => exact ⟨0, rfl⟩
    | false =>
      obtain ⟨n, hn⟩ := insK_eq k v es
      exact ⟨n + 1, by simp [hn]⟩
omit r in
theorem insK_perm (k v : V) (es : List (V × V)) : (es ++ [(k, v)]).Perm (insK k v es) := by
  obtain ⟨n, hn⟩ := insK_eq k v es
  rw [hn]
  refine .trans List.perm_append_comm (.trans ?_ List.perm_middle.symm)
  simp

/-- An own block that holds no cells becomes another one. -/
theorem OutR.putObj {i b : Nat} {cv : Value} {o o' : Obj} {k : Blk} (hb : μ i = some (b, none)) (hw : w.heap[b]? = some o) (ho : ∀ c e fr, o ≠ .cells c e fr) (hol : ∀ l, o ≠ .loop l) (hk : BlkR φ μ b none (w.putObj b o') k) (hwr : out.wr = [(i, k)]) (hv : Rv φ μ out.v cv) :
    OutR φ μ B h w nid out cv (w.putObj b o') := by
  have hbl : b < w.heap.size := (Array.getElem?_eq_some_iff.1 hw).1
  have hil : i < h.length := (r.dom i b _ hb).1
  refine ⟨φ, μ, hv, ⟨r.glob, fun bb q v hh => ?_, fun bb m hm => ?_, r.inj, fun j bb y hj => ?_, fun j k' hk' => ?_⟩, Ext.refl _ _ _, ⟨rfl, rfl, rfl, by rw [World.putObj_size]; exact Nat.le_refl _, fun k hk hn => World.putObj_heap_other (fun e => hn i none (e ▸ hb)), fun k rr hq => ?_⟩, fun i hi => absurd rfl hi⟩
  · have g1 := r.cell bb q v hh
    have hne : bb ≠ b := fun e => by
      subst e
      simp only [World.cell?, hw] at g1
      split at g1
      · rename_i hq; simp only [Option.some.injEq] at hq; exact ho _ _ _ hq
      · cases g1
    rw [← g1]
    exact World.cell?_of_block (World.putObj_heap_other hne)
  · obtain ⟨c1, e1, f1, g1, g2⟩ := r.size bb m hm
    have hne : bb ≠ b := fun e => by subst e; rw [hw] at g1; simp only [Option.some.injEq] at g1; exact ho _ _ _ g1
    exact ⟨c1, e1, f1, (World.putObj_heap_other hne).trans g1, g2⟩
  · rw [hwr, World.putObj_size]
    simp only [applyW, List.foldl_cons, List.foldl_nil, List.length_set]
    exact r.dom j bb y hj
  · rw [hwr] at hk'
    simp only [applyW, List.foldl_cons, List.foldl_nil] at hk'
    rw [hget_set] at hk'
    split at hk'
    · rename_i hh
      obtain ⟨rfl, _⟩ := hh
      simp only [Option.some.injEq] at hk'
      subst hk'
      exact ⟨b, none, hb, hk⟩
    · rename_i hh
      obtain ⟨bb, y, g1, g2⟩ := r.blk j k' hk'
      have hne : bb ≠ b := fun e => hh ⟨r.inj i j b _ _ hb (e ▸ g1), hil⟩
      exact ⟨bb, y, g1, g2.mono φ.le_refl (Mu.le_refl _) (World.putObj_heap_other hne) (fun _ _ h => h)⟩
  · by_cases hkb : k = b
    · exfalso
      subst hkb
      rw [hw] at hq
      simp only [Option.some.injEq] at hq
      exact hol _ hq
    · exact ⟨rr, (World.putObj_heap_other hkb).trans hq⟩

omit r in
theorem run_getObj {b : Nat} {o : Obj} (h : w.heap[b]? = some o) (hp : ∀ c e fr, o ≠ .cells c e fr) : (getObj b).run P w = .ok o w := by
  cases o <;> first | (exact absurd rfl (hp _ _ _)) | (simp only [getObj, Go.Sem.run, h]; done)
omit r in
theorem run_setObj {b : Nat} {o o' : Obj} (h : w.heap[b]? = some o) (hp : ∀ c e fr, o ≠ .cells c e fr) : (setObj b o').run P w = .ok () (w.putObj b o') := by
  cases o <;> first | (exact absurd rfl (hp _ _ _)) | (simp only [setObj, Go.Sem.run, h, World.putObj]; done)

include hT
theorem insertF_ok (hc : out.c = true) {t : Nat} {m k v : V} {cm ck cv : Value} (hm : Rv φ μ m cm) (hk : Rv φ μ k ck) (hv : Rv φ μ v cv) (hf : insertF T t m k v (hget h) = some out) : ∃ w', (Instr.mapUpdate t cm ck cv).run P w = .ok () w' ∧ OutR φ μ B h w nid out Go.undef w' := by
  unfold insertF at hf
  split at hf
  · rename_i ti id hti
    obtain ⟨i, d, z, k1⟩ := hT t ti hti
    split at hf
    · rename_i kt e es clock hkk hh
      have hd := kind_map (show kindOk (.map kt e) d = true from hkk ▸ k1.kind)
      subst hd
      split at hf
      · rename_i hfind
        simp only [Option.some.injEq] at hf
        subst hf
        cases hm with
        | map _ _ b hb =>
          obtain ⟨c, fs, h1, hE, hp, hnd, hlt⟩ := hget_mapc r hh hb
          have hfind : findV T kt k fs = some none := by
            obtain ⟨a', g1, g2⟩ := hits_perm hp.symm hfind
            rw [List.nil_perm.1 g2] at g1
            exact hits_find.1 g1
          have hkd : ∃ dk, P.underlying kt = some dk := by
            unfold keyOk at hc
            simp only at hc
            split at hc
            · rename_i ki hki
              obtain ⟨i2, d2, z2, k2⟩ := hT kt ki hki
              exact ⟨d2, k2.und⟩
            · cases hc
          obtain ⟨dk, hdk⟩ := hkd
          obtain ⟨a, g1, g2⟩ := findKey_ok hT hdk hk w hE hfind
          cases a with
          | some a => exact g2.elim
          | none =>
            have hck := keyOk_ok (P := P) hT hc hk false w
            have hnc : ∀ c' e fr, Obj.map c clock ≠ .cells c' e fr := fun _ _ _ e => by cases e
            refine ⟨w.putObj b (.map (c.push { key := ck, val := cv, born := clock }) (clock + 1)), ?_, OutR.putObj r hb h1 hnc (fun _ e => by cases e) ?_ rfl (.undef _ _)⟩
            · simp only [Instr.mapUpdate, Sem.run_bind, run_underlying k1.und, Result.andThen_ok, run_getObj h1 hnc, hck, g1, run_setObj h1 hnc]
            · have hbl : b < w.heap.size := (Array.getElem?_eq_some_iff.1 h1).1
              refine ⟨rfl, _, fs ++ [(k, v, clock)], World.putObj_heap_same hbl, ?_, fun j x y hx hy => ?_, ?_, ?_, ?_⟩
              · have := hE.1; simp at this ⊢; exact this
              · have hl := hE.1
                simp only [Array.length_toList] at hl
                rcases Nat.lt_or_ge j fs.length with hj | hj
                · rw [List.getElem?_append_left hj] at hx
                  rw [Array.getElem?_push, if_neg (by omega)] at hy
                  exact hE.2 j x y hx (by simpa using hy)
                · have hjl := (List.getElem?_eq_some_iff.1 hx).1
                  simp at hjl
                  have hje : j = fs.length := by omega
                  subst hje
                  rw [Array.getElem?_push, if_pos hl.symm] at hy
                  simp at hx hy
                  subst hx; subst hy
                  exact ⟨hk, hv, rfl⟩
              · rw [List.map_append]
                exact (hp.append_right _).trans (insK_perm k v es)
              · rw [List.map_append, List.nodup_append]
                refine ⟨hnd, by simp, fun a ha b hb => ?_⟩
                simp only [List.mem_map] at ha
                simp only [List.map_cons, List.map_nil, List.mem_singleton] at hb
                obtain ⟨x, hx, rfl⟩ := ha
                have := hlt x hx
                omega
              · intro x hx
                rcases List.mem_append.1 hx with hx | hx
                · have := hlt x hx; omega
                · simp only [List.mem_singleton] at hx
                  subst hx
                  simp
      · cases hf
    · cases hf
  · cases hf

theorem hitF_ok {t kt e : Nat} {i : TypeInfo} {d : TypeDesc} {z : Value} {ti : TI} (k1 : tiOk P t ti i d z) (hkk : ti.k = .map kt e) {id : Nat} {cm k : V} {ck cmv : Value} (hm : Rv φ μ (.map id) cmv) (hk : Rv φ μ k ck) {q : Option V} (hck : keyOk T kt k = true) (hf : hitF T kt k (hget h id) = some q) :
    ∃ (b : Nat) (c : Array MapEntry) (clock : Nat) (a : Option (Nat × Value)), cmv = .map (some b) ∧ w.heap[b]? = some (.map c clock) ∧ (Instr.findKey kt ck c.toList).run P w = .ok a w ∧ FoundR φ μ q a := by
  have hkd : ∃ dk, P.underlying kt = some dk := by
    unfold keyOk at hck
    split at hck
    · rename_i ki hki
      obtain ⟨i2, d2, z2, k2⟩ := hT kt ki hki
      exact ⟨d2, k2.und⟩
    · cases hck
  obtain ⟨dk, hdk⟩ := hkd
  cases hm with
  | map _ _ b hb =>
    unfold hitF at hf
    split at hf
    · rename_i es clock hh
      obtain ⟨c, h1, hE⟩ := hget_map r hh hb
      obtain ⟨a, g1, g2⟩ := findKey_ok hT hdk hk w hE hf
      exact ⟨b, c, clock, a, rfl, h1, g1, g2⟩
    · rename_i es clock hh
      obtain ⟨c, fs, h1, hE, hp, _, _⟩ := hget_mapc r hh hb
      have hfind : findV T kt k fs = some q := by
        split at hf
        · rename_i hh2
          simp only [Option.some.injEq] at hf
          subst hf
          obtain ⟨a', g1, g2⟩ := hits_perm hp.symm hh2
          rw [List.nil_perm.1 g2] at g1
          exact hits_find.1 g1
        · rename_i v hh2
          simp only [Option.some.injEq] at hf
          subst hf
          obtain ⟨a', g1, g2⟩ := hits_perm hp.symm hh2
          rw [← List.singleton_perm.1 g2] at g1
          exact hits_find.2 v g1
        · cases hf
      obtain ⟨a, g1, g2⟩ := findKey_ok hT hdk hk w hE hfind
      exact ⟨b, c, clock, a, rfl, h1, g1, g2⟩
    · cases hf

theorem lookupF_ok (hc : out.c = true) {t : Nat} {m k : V} {ok : Bool} {cm ck : Value} (hm : Rv φ μ m cm) (hk : Rv φ μ k ck) (hf : lookupF T t m k ok (hget h) = some out) : ∃ cv, (Instr.lookup t cm ck ok).run P w = .ok cv w ∧ OutR φ μ B h w nid out cv w := by
  unfold lookupF at hf
  split at hf
  · rename_i ti id hti
    obtain ⟨i, d, z, k1⟩ := hT t ti hti
    split at hf
    · rename_i kt e hkk
      have hd := kind_map (show kindOk (.map kt e) d = true from hkk ▸ k1.kind)
      subst hd
      have two : ∀ {v : V} {cv : Value} (q : Bool), Rv φ μ v cv → Rv φ μ (.tup [v, .bool q]) (.tuple #[cv, .bool q]) := fun q hv => .tup _ _ _ rfl (fun j hj => by
        simp at hj
        rcases (show j = 0 ∨ j = 1 by omega) with rfl | rfl
        · exact hv
        · exact .bool _ _)
      have hnc : ∀ (c : Array MapEntry) (clock : Nat) c' e fr, Obj.map c clock ≠ .cells c' e fr := fun _ _ _ _ _ e => by cases e
      split at hf
      · rename_i ei v hei hfind
        simp only [Option.some.injEq] at hf
        subst hf
        obtain ⟨b, c, clock, a, rfl, h1, g1, g2⟩ := hitF_ok hT r (cm := .undef) k1 hkk hm hk hc hfind
        cases a with
        | none => exact g2.elim
        | some a =>
          obtain ⟨n, cv⟩ := a
          have g2 : Rv φ μ v cv := g2
          have hck := keyOk_ok (P := P) hT hc hk c.isEmpty w
          refine ⟨if ok then .tuple #[cv, .bool true] else cv, ?_, OutR.same r ?_ rfl⟩
          · simp only [Instr.lookup, Sem.run_bind, run_underlying k1.und, Result.andThen_ok, run_getObj h1 (hnc _ _), Sem.run_pure, hck, g1]
          · cases ok
            · exact g2
            · exact two _ g2
      · rename_i ei hei hfind
        obtain ⟨i2, d2, z2, k2⟩ := hT e ei hei
        simp only [Option.some.injEq] at hf
        subst hf
        obtain ⟨b, c, clock, a, rfl, h1, g1, g2⟩ := hitF_ok hT r (cm := .undef) k1 hkk hm hk hc hfind
        cases a with
        | some a => exact g2.elim
        | none =>
          have hck := keyOk_ok (P := P) hT hc hk c.isEmpty w
          refine ⟨if ok then .tuple #[z2, .bool false] else z2, ?_, OutR.same r ?_ rfl⟩
          · simp only [Instr.lookup, Sem.run_bind, run_underlying k1.und, Result.andThen_ok, run_getObj h1 (hnc _ _), Sem.run_pure, hck, g1, run_zeroValue k2.info k2.zero]
          · cases ok
            · exact k2.zrv _ _
            · exact two _ (k2.zrv _ _)
      · cases hf
    · cases hf
  · cases hf

theorem rangeF_ok (hc : out.c = true) (hB : B ≤ w.heap.size) (hnid : nid + out.nw ≤ h.length) (hfree : ∀ q, q < out.nw → μ (nid + q) = none) {t : Nat} {x : V} {cx : Value} (hx : Rv φ μ x cx) (hf : rangeF T t x (hget h) nid = some out) : ∃ cv w', (Instr.range t cx).run P w = .ok cv w' ∧ OutR φ μ B h w nid out cv w' := by
  unfold rangeF at hf
  split at hf
  · rename_i ti s hti
    obtain ⟨i, d, z, k1⟩ := hT t ti hti
    split at hf
    · rename_i hkk
      have hd := kind_str (show kindOk .str d = true from hkk ▸ k1.kind)
      subst hd
      simp only [Option.some.injEq] at hf
      subst hf
      cases hx
      have hfr0 := hfree 0 (by simp)
      rw [Nat.add_zero] at hfr0
      exact ⟨.pointer (some ⟨w.heap.size, 0, none⟩), w.alloc (.stringIter s 0), by simp only [Instr.range, Sem.run_bind, run_underlying k1.und, Result.andThen_ok, Sem.run_pure, run_newObj'], OutR.new (k := .siter s 0) (x := none) r hB (by simp only at hnid; omega) hfr0 rfl rfl ⟨rfl, alloc_new w _⟩ (.ptr _ _ _ _ (by unfold Mu.add; rw [if_pos rfl]))⟩
    · cases hf
  · rename_i ti id hti
    obtain ⟨i, d, z, k1⟩ := hT t ti hti
    split at hf
    · rename_i kt e es clock hkk hh
      have hd := kind_map (show kindOk (.map kt e) d = true from hkk ▸ k1.kind)
      subst hd
      simp only [Option.some.injEq] at hf
      subst hf
      cases hx with
      | map _ _ b hb =>
        obtain ⟨c, h1, hE⟩ := hget_map r hh hb
        have hnc : ∀ c' e fr, Obj.map c clock ≠ .cells c' e fr := fun _ _ _ e => by cases e
        have hfr0 := hfree 0 (by simp)
        rw [Nat.add_zero] at hfr0
        exact ⟨.pointer (some ⟨w.heap.size, 0, none⟩), w.alloc (.mapIter (some b) clock #[] clock), by simp only [Instr.range, Sem.run_bind, run_underlying k1.und, Result.andThen_ok, run_getObj h1 hnc, Sem.run_pure, run_newObj'], OutR.new (k := .miter id clock [] clock) (x := none) r hB (by simp only at hnid; omega) hfr0 rfl rfl ⟨rfl, b, Mu.le_plain (Mu.add_le hfr0) hb, alloc_new w _⟩ (.ptr _ _ _ _ (by unfold Mu.add; rw [if_pos rfl]))⟩
    · cases hf
  · cases hf

omit hT in
theorem nextStrF_ok {ty : Nat} {x : V} {cx : Value} (hx : Rv φ μ x cx) (hf : nextStrF x (hget h) = some out) : ∃ cv w', (Instr.next cx true ty).run P w = .ok cv w' ∧ OutR φ μ B h w nid out cv w' := by
  unfold nextStrF at hf
  split at hf
  · rename_i id
    split at hf
    · rename_i s pos hh
      cases hx with
      | ptr _ _ _ b hb =>
        obtain ⟨b', x', hb', h0, h1⟩ := r.blk id _ hh
        rw [hb] at hb'
        simp only [Option.some.injEq, Prod.mk.injEq] at hb'
        obtain ⟨rfl, _⟩ := hb'
        have hnc : ∀ c' e fr, Obj.stringIter s pos ≠ .cells c' e fr := fun _ _ _ e => by cases e
        cases hlt : Nat.blt pos s.size with
        | true =>
          rw [hlt] at hf
          simp only [cond_true, Option.some.injEq] at hf
          subst hf
          have hlt := nblt_t hlt
          have hbl : b < w.heap.size := (Array.getElem?_eq_some_iff.1 h1).1
          refine ⟨_, w.putObj b (.stringIter s (pos + (Utf8.decode s pos).2)), ?_, OutR.putObj (k := .siter s (pos + (Utf8.decode s pos).2)) (cv := .tuple #[.bool true, goInt pos, .int .i32 (Utf8.decode s pos).1]) r hb h1 hnc (fun _ e => by cases e) ⟨rfl, World.putObj_heap_same hbl⟩ rfl ?_⟩
          · simp only [Instr.next, Sem.run_bind, run_getObj h1 hnc, Result.andThen_ok, hlt, if_true, run_setObj h1 hnc, Sem.run_pure]
          · exact .tup _ _ _ rfl (fun j hj => by
              simp at hj
              rcases (show j = 0 ∨ j = 1 ∨ j = 2 by omega) with rfl | rfl | rfl
              · exact .bool _ _
              · exact .int _ _ _
              · exact .int _ _ _)
        | false =>
          rw [hlt] at hf
          simp only [cond_false, Option.some.injEq] at hf
          subst hf
          have hlt := nblt_f hlt
          refine ⟨.tuple #[.bool false], w, ?_, OutR.same r (.tup _ _ _ rfl (fun j hj => by simp at hj; subst hj; exact .bool _ _)) rfl⟩
          simp only [Instr.next, Sem.run_bind, run_getObj h1 hnc, Result.andThen_ok, hlt, if_false, Sem.run_pure]
    · cases hf
  · cases hf

omit r hT in
theorem findB_ok {n : Nat} : ∀ {es : List (V × V × Nat)} {cs : List MapEntry} {k v : V}, EntR φ μ es cs → findB n es = some (k, v) → ∃ e, cs.find? (·.born == n) = some e ∧ Rv φ μ k e.key ∧ Rv φ μ v e.val
  | [], cs, k, v, _, hf => by cases hf
  | e :: es, cs, k, v, hE, hf => by
    obtain ⟨c, cs', rfl, h1, h2, h3, hE'⟩ := hE.cons
    simp only [findB] at hf
    cases hb : Nat.beq e.2.2 n with
    | true =>
      rw [hb] at hf
      simp only [cond_true, Option.some.injEq, Prod.mk.injEq] at hf
      obtain ⟨rfl, rfl⟩ := hf
      have := Nat.eq_of_beq_eq_true hb
      exact ⟨c, by rw [List.find?_cons, show (c.born == n) = true by rw [← h3, this]; exact beq_self_eq_true n], h1, h2⟩
    | false =>
      rw [hb] at hf
      simp only [cond_false] at hf
      obtain ⟨e', g1, g2⟩ := findB_ok hE' hf
      have hne : (c.born == n) = false := by
        rw [← h3]
        cases hq : (e.2.2 == n) with
        | false => rfl
        | true =>
          have : e.2.2 = n := by simpa using hq
          rw [nbeq_t this] at hb; cases hb
      exact ⟨e', by rw [List.find?_cons, hne]; exact g1, g2⟩

omit hT in
theorem entryF_ok (hc : out.c = true) {x : V} {cx : Value} (hx : Rv φ μ x cx) (hf : entryF x (hget h) = some out) : ∃ cv, (Instr.entry cx).run P w = .ok cv w ∧ OutR φ μ B h w nid out cv w := by
  unfold entryF at hf
  split at hf
  · rename_i id
    split at hf
    · rename_i mid since seen last hh
      split at hf
      · rename_i es clock bn hm hl
        split at hf
        · rename_i k v hfb
          simp only [Option.some.injEq] at hf
          subst hf
          have hc := Nat.eq_of_beq_eq_true hc
          subst hc
          cases hx with
          | ptr _ _ _ b hb =>
            obtain ⟨b', x', hb', h0, bm, hbm, h1⟩ := r.blk id _ hh
            rw [hb] at hb'
            simp only [Option.some.injEq, Prod.mk.injEq] at hb'
            obtain ⟨rfl, _⟩ := hb'
            obtain ⟨c, h2, hE⟩ := hget_map r hm hbm
            obtain ⟨e, g1, g2, g3⟩ := findB_ok hE hfb
            have hn1 : ∀ c' e fr, Obj.mapIter (some bm) since seen.toArray clock ≠ .cells c' e fr := fun _ _ _ e => by cases e
            have hn2 : ∀ c' e fr, Obj.map c clock ≠ .cells c' e fr := fun _ _ _ e => by cases e
            refine ⟨.tuple #[e.key, e.val], ?_, OutR.same r (.tup _ _ _ rfl (fun j hj => by
              simp at hj
              rcases (show j = 0 ∨ j = 1 by omega) with rfl | rfl
              · exact g2
              · exact g3)) rfl⟩
            have hbk : seen.toArray.back? = some bn := by rw [List.back?_toArray]; exact hl
            have hfd : c.find? (fun e => e.born == bn) = some e := by rw [← Array.find?_toList]; exact g1
            simp only [Instr.entry, Sem.run_bind, run_getObj h1 hn1, Result.andThen_ok, hbk, run_getObj h2 hn2, bne_self_eq_false, Bool.false_eq_true, if_false, hfd, Sem.run_pure]
        · cases hf
      · cases hf
    · cases hf
  · cases hf
end
end Go.Cx
