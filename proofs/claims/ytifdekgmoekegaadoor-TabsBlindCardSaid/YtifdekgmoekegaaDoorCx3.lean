/- A calculus for calls of the program: canonical values and heaps, and what each operation, loop and call does to them; no condition on the program. -/
import Derived.Test.YtifdekgmoekegaaDoorCx2
namespace Go.Cx
open Go.RowKit

/-! ### Values: parts, equality, operators -/
def isAggK : TK → Bool
  | .struct _ | .arr .. => true
  | _ => false

/-- A list of canonical cells stands for an array of the model's. -/
structure RvA (φ : Phi) (μ : Mu) (xs : List V) (cs : Array Value) : Prop where
  len : xs.length = cs.size
  rv : ∀ j, j < xs.length → Rv φ μ (xs.getD j .undef) (cs.getD j Go.undef)

theorem RvA.agg {φ : Phi} {μ : Mu} {xs : List V} {cs : Array Value} (h : RvA φ μ xs cs) : Rv φ μ (.agg xs) (.agg cs) := .agg _ _ _ h.1 h.2
theorem RvA.mono {φ φ' : Phi} {μ μ' : Mu} (hφ : φ.le φ') (hμ : μ.le μ') {xs : List V} {cs : Array Value} (h : RvA φ μ xs cs) : RvA φ' μ' xs cs :=
  ⟨h.1, fun j hj => (h.2 j hj).mono hφ hμ⟩

theorem Rv.agg_inv {φ : Phi} {μ : Mu} {xs : List V} {c : Value} (h : Rv φ μ (.agg xs) c) : ∃ cs, c = .agg cs ∧ RvA φ μ xs cs := by
  cases h with
  | agg _ _ cs l r => exact ⟨cs, rfl, l, r⟩
theorem Rv.tup_inv {φ : Phi} {μ : Mu} {xs : List V} {c : Value} (h : Rv φ μ (.tup xs) c) : ∃ cs, c = .tuple cs ∧ RvA φ μ xs cs := by
  cases h with
  | tup _ _ cs l r => exact ⟨cs, rfl, l, r⟩

theorem RvA.get {φ : Phi} {μ : Mu} {xs : List V} {cs : Array Value} (h : RvA φ μ xs cs) {i : Nat} {v : V} (hv : xs[i]? = some v) : ∃ c, cs[i]? = some c ∧ Rv φ μ v c := by
  obtain ⟨hl, he⟩ := List.getElem?_eq_some_iff.1 hv
  have h2 := h.2 i hl
  have hc : i < cs.size := by rw [← h.1]; exact hl
  refine ⟨cs[i], Array.getElem?_eq_getElem hc, ?_⟩
  have e1 : xs.getD i .undef = v := by simp [hv]
  have e2 : cs.getD i Go.undef = cs[i] := by simp [hc]
  rw [e1, e2] at h2
  exact h2

theorem RvA.extract {φ : Phi} {μ : Mu} {xs : List V} {cs : Array Value} (h : RvA φ μ xs cs) (o n : Nat) : RvA φ μ ((xs.drop o).take n) (cs.extract o (o + n)) := by
  refine ⟨by simp [h.1]; omega, fun j hj => ?_⟩
  simp only [List.length_take, List.length_drop] at hj
  have hj' : o + j < xs.length := by omega
  have h2 := h.2 (o + j) hj'
  have hjn : j < n := by omega
  have e1 : ((xs.drop o).take n).getD j .undef = xs.getD (o + j) .undef := by
    simp [hjn, List.getElem?_drop]
  have hc : o + j < cs.size := by rw [← h.1]; exact hj'
  have e2 : (cs.extract o (o + n)).getD j Go.undef = cs.getD (o + j) Go.undef := by
    have : j < min (o + n) cs.size - o := by omega
    simp [Array.getD_eq_getD_getElem?, this, hc]
  rw [e1, e2]; exact h2

def partV (T : Nat → Option TI) (t : Nat) (cs : List V) (o : Nat) : Option V :=
  match T t with
  | some ti => cond (isAggK ti.k) (some (.agg ((cs.drop o).take ti.size))) cs[o]?
  | none => none

theorem run_sizeOf {P : Program} {t : Nat} {i : TypeInfo} (h : P.info? t = some i) (w : World) : (sizeOf t).run P w = .ok i.size w := by
  simp [sizeOf, typeInfo, h]
theorem run_zeroValue {P : Program} {t : Nat} {i : TypeInfo} {z : Value} (h : P.info? t = some i) (hz : i.zero = some z) (w : World) : (zeroValue t).run P w = .ok z w := by
  simp [zeroValue, typeInfo, h, hz]
def descAgg : TypeDesc → Bool
  | .struct _ | .array _ _ => true
  | _ => false
theorem run_isAgg {P : Program} {t : Nat} {d : TypeDesc} (h : P.underlying t = some d) (w : World) : (isAgg t).run P w = .ok (descAgg d) w := by
  simp only [isAgg, Sem.run_bind, run_underlying h, Result.andThen_ok]
  cases d <;> rfl

theorem isAggK_eq {k : TK} {d : TypeDesc} (h : kindOk k d = true) : descAgg d = isAggK k := by
  cases k <;> cases d <;> first | rfl | exact Bool.noConfusion h

theorem part_ok {P : Program} {T : Nat → Option TI} (hT : TOk P T) {φ : Phi} {μ : Mu} {xs : List V} {cs : Array Value} (h : RvA φ μ xs cs) {t o : Nat} {v : V} (hv : partV T t xs o = some v) (w : World) :
    ∃ cv, (part t cs o).run P w = .ok cv w ∧ Rv φ μ v cv := by
  unfold partV at hv
  split at hv
  · rename_i ti hti
    obtain ⟨i, d, z, k⟩ := hT t ti hti
    have ha := run_isAgg k.und w
    rw [isAggK_eq k.kind] at ha
    cases hg : isAggK ti.k with
    | true =>
      rw [hg] at ha hv
      simp only [cond_true, Option.some.injEq] at hv
      subst hv
      refine ⟨.agg (cs.extract o (o + ti.size)), ?_, (h.extract o ti.size).agg⟩
      simp only [part, Sem.run_bind, ha, Result.andThen_ok, if_true, run_sizeOf k.info, k.size, Sem.run_pure]
    | false =>
      rw [hg] at ha hv
      simp only [cond_false] at hv
      obtain ⟨c, hc, hr⟩ := h.get hv
      refine ⟨c, ?_, hr⟩
      simp only [part, Sem.run_bind, ha, Result.andThen_ok, Bool.false_eq_true, if_false, hc, Sem.run_pure]
  · cases hv

/-- Alike, byte for byte. -/
def sEq (a b : ByteArray) : Bool := a.data.toList == b.data.toList
theorem sEq_eq (a b : ByteArray) : sEq a b = (a.toList == b.toList) := by rw [ByteArray.toList_eq, ByteArray.toList_eq]; rfl

def eqV (T : Nat → Option TI) : Nat → Nat → V → V → Option Bool
  | 0, _, _, _ => none
  | n + 1, t, x, y =>
    match T t with
    | none => none
    | some ti =>
      match ti.k, x, y with
      | .bool, .bool a, .bool b => some (a == b)
      | .int _, .int k a, .int k' b => cond (k == k') (some (a == b)) none
      | .str, .str a, .str b => some (sEq a b)
      | .struct fs, .agg xs, .agg ys =>
        fs.foldr (fun f r => match partV T f.2 xs f.1, partV T f.2 ys f.1, r with
          | some a, some b, some r => match eqV T n f.2 a b with | some q => some (q && r) | none => none
          | _, _, _ => none) (some true)
      | .arr m e, .agg xs, .agg ys =>
        (match T e with
        | some ei => (List.range m).foldr (fun i r => match partV T e xs (i * ei.size), partV T e ys (i * ei.size), r with
          | some a, some b, some r => match eqV T n e a b with | some q => some (q && r) | none => none
          | _, _, _ => none) (some true)
        | none => none)
      | _, _, _ => none

theorem kind_bool {d : TypeDesc} (h : kindOk .bool d = true) : d = .bool := by
  cases d <;> first | rfl | exact Bool.noConfusion h
theorem kind_int {k : IntKind} {d : TypeDesc} (h : kindOk (.int k) d = true) : d = .int k := by
  cases d <;> first | (simp [kindOk] at h; rw [h]) | exact Bool.noConfusion h
theorem kind_str {d : TypeDesc} (h : kindOk .str d = true) : d = .string := by
  cases d <;> first | rfl | exact Bool.noConfusion h
theorem kind_slice {e : Nat} {d : TypeDesc} (h : kindOk (.slice e) d = true) : d = .slice e := by
  cases d <;> first | (simp [kindOk] at h; rw [h]) | exact Bool.noConfusion h
theorem kind_arr {n e : Nat} {d : TypeDesc} (h : kindOk (.arr n e) d = true) : d = .array n e := by
  cases d <;> first | (simp [kindOk] at h; rw [h.1, h.2]) | exact Bool.noConfusion h
theorem kind_struct {fs : List (Nat × Nat)} {d : TypeDesc} (h : kindOk (.struct fs) d = true) : ∃ gs : Array Field, d = .struct gs ∧ gs.toList.map (fun f => (f.offset, f.type)) = fs := by
  cases d <;> first | exact Bool.noConfusion h | exact ⟨_, rfl, by simpa [kindOk] using h⟩
theorem kind_ptr {e : Nat} {d : TypeDesc} (h : kindOk (.ptr e) d = true) : d = .pointer e := by
  cases d <;> first | (simp [kindOk] at h; rw [h]) | exact Bool.noConfusion h
theorem kind_uptr {d : TypeDesc} (h : kindOk .uptr d = true) : d = .unsafePointer := by
  cases d <;> first | rfl | exact Bool.noConfusion h
theorem kind_func {d : TypeDesc} (h : kindOk .func d = true) : ∃ a b c, d = .func a b c := by
  cases d <;> first | exact ⟨_, _, _, rfl⟩ | exact Bool.noConfusion h
theorem kind_map {k e : Nat} {d : TypeDesc} (h : kindOk (.map k e) d = true) : d = .map k e := by
  cases d <;> first | (simp [kindOk] at h; rw [h.1, h.2]) | exact Bool.noConfusion h

def eqStep (T : Nat → Option TI) (eq : Nat → V → V → Option Bool) (xs ys : List V) (f : Nat × Nat) (r : Option Bool) : Option Bool :=
  match partV T f.2 xs f.1, partV T f.2 ys f.1, r with
  | some a, some b, some r => (match eq f.2 a b with | some q => some (q && r) | none => none)
  | _, _, _ => none

theorem eqV_ok {P : Program} {T : Nat → Option TI} (hT : TOk P T) {φ : Phi} {μ : Mu} (w : World) : ∀ (n d t : Nat) (x y : V) (q : Bool) (cx cy : Value), n ≤ d → eqV T n t x y = some q → Rv φ μ x cx → Rv φ μ y cy →
    (Op.equalIn d t cx cy).run P w = .ok q w := by
  intro n
  induction n with
  | zero => intro d t x y q cx cy _ h; simp [eqV] at h
  | succ n ih =>
    intro d t x y q cx cy hd h hx hy
    obtain ⟨d, rfl⟩ : ∃ m, d = m + 1 := ⟨d - 1, by omega⟩
    unfold eqV at h
    split at h
    · cases h
    · rename_i ti hti
      obtain ⟨i, de, z, k⟩ := hT t ti hti
      split at h
      · rename_i hk
        cases hx; cases hy
        simp only [Option.some.injEq] at h; subst h
        exact run_equalIn_bool' w d t _ _ (by rw [k.und]; exact congrArg some (kind_bool (show kindOk .bool de = true from hk ▸ k.kind)))
      · rename_i kk a1 a2 b1 b2 hk
        cases hx; cases hy
        cases hkk : (a1 == b1) with
        | false => rw [hkk] at h; cases h
        | true =>
          rw [hkk] at h
          simp only [cond_true, Option.some.injEq] at h; subst h
          have : a1 = b1 := by simpa using hkk
          subst this
          exact run_equalIn_int w d t _ _ _ _ (by rw [k.und]; exact congrArg some (kind_int (show kindOk (.int _) de = true from hk ▸ k.kind)))
      · rename_i hk
        cases hx; cases hy
        simp only [Option.some.injEq] at h; subst h
        rw [sEq_eq]
        exact run_equalIn_string w d t _ _ (by rw [k.und]; exact congrArg some (kind_str (show kindOk .str de = true from hk ▸ k.kind)))
      · rename_i fs xs ys hk
        obtain ⟨cx, rfl, hX⟩ := hx.agg_inv
        obtain ⟨cy, rfl, hY⟩ := hy.agg_inv
        obtain ⟨gs, rfl, hgs⟩ := kind_struct (hk ▸ k.kind)
        have hheld := k.held
        rw [hk] at hheld
        obtain ⟨h1, _, h3⟩ := hheld
        have hf : P.fieldsOf t = gs := by simp [Program.fieldsOf, k.und]
        rw [run_equalIn_struct (P := P) w d t cx cy (by rw [hf]; exact k.und) h1, hf]
        have hnames : ∀ f ∈ gs.toList, (f.name != "_") = true := by
          simp only [namesOk, Array.all_eq_true_iff_forall_mem] at h3
          exact fun f hf => h3 f (by simpa using hf)
        clear hf h3
        rw [← hgs] at h
        clear hgs
        change ((gs.toList.map fun f => (f.offset, f.type)).foldr (eqStep T (eqV T n) xs ys) (some true)) = some q at h
        have key : ∀ (l : List Field) (q : Bool), (∀ f ∈ l, (f.name != "_") = true) → ((l.map fun f => (f.offset, f.type)).foldr (eqStep T (eqV T n) xs ys) (some true)) = some q → (Op.eqFields d cx cy l).run P w = .ok q w := by
          intro l
          induction l with
          | nil => intro q _ h; simp at h; subst h; simp [Op.eqFields]
          | cons f l ihl =>
            intro q hn h
            simp only [List.map_cons, List.foldr_cons] at h
            generalize hr : ((l.map fun f => (f.offset, f.type)).foldr (eqStep T (eqV T n) xs ys) (some true)) = r at h
            unfold eqStep at h
            split at h
            · rename_i a b r' ha hb
              split at h
              · rename_i q' hq
                simp only [Option.some.injEq] at h
                obtain ⟨ca, hca, ra⟩ := part_ok hT hX ha w
                obtain ⟨cb, hcb, rb⟩ := part_ok hT hY hb w
                have he := ih d f.type a b q' ca cb (by omega) hq ra rb
                have hn' : f.name ≠ "_" := by simpa using hn f (by simp)
                have hl := ihl r' (fun g hg => hn g (by simp [hg])) hr
                simp only [Op.eqFields, if_pos hn', Sem.run_bind, hca, hcb, he, Result.andThen_ok]
                cases q'
                · simp at h; subst h; simp
                · simp at h; subst h; simpa using hl
              · cases h
            · cases h
        exact key gs.toList q hnames h
      · rename_i m e xs ys hk
        obtain ⟨cx, rfl, hX⟩ := hx.agg_inv
        obtain ⟨cy, rfl, hY⟩ := hy.agg_inv
        have hd' := kind_arr (show kindOk (.arr m e) de = true from hk ▸ k.kind)
        subst hd'
        split at h
        · rename_i ei hei
          obtain ⟨i2, d2, z2, k2⟩ := hT e ei hei
          have hcell : P.cellsOf e = ei.size := by simp [Program.cellsOf, k2.info, k2.size]
          rw [run_equalIn_array w d cx cy k.und k2.info, hcell]
          have key : ∀ (l : List Nat) (q : Bool), (l.foldr (fun i r => match partV T e xs (i * ei.size), partV T e ys (i * ei.size), r with
              | some a, some b, some r => match eqV T n e a b with | some q => some (q && r) | none => none
              | _, _, _ => none) (some true)) = some q → (Op.eqItems d e ei.size cx cy l).run P w = .ok q w := by
            intro l
            induction l with
            | nil => intro q h; simp at h; subst h; simp [Op.eqItems]
            | cons f l ihl =>
              intro q h
              simp only [List.foldr_cons] at h
              generalize hr : (l.foldr (fun i r => match partV T e xs (i * ei.size), partV T e ys (i * ei.size), r with
                | some a, some b, some r => match eqV T n e a b with | some q => some (q && r) | none => none
                | _, _, _ => none) (some true)) = r at h
              split at h
              · rename_i a b r' ha hb
                split at h
                · rename_i q' hq
                  simp only [Option.some.injEq] at h
                  obtain ⟨ca, hca, ra⟩ := part_ok hT hX ha w
                  obtain ⟨cb, hcb, rb⟩ := part_ok hT hY hb w
                  have he := ih d e a b q' ca cb (by omega) hq ra rb
                  have hl := ihl r' hr
                  simp only [Op.eqItems, Sem.run_bind, hca, hcb, he, Result.andThen_ok]
                  cases q'
                  · simp at h; subst h; simp
                  · simp at h; subst h; simpa using hl
                · cases h
              · cases h
          exact key _ q h
        · cases h
      · cases h
end Go.Cx
