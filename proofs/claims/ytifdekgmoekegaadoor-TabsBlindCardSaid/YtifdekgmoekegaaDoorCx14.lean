/- A calculus for calls of the program: canonical values and heaps, and what each operation, loop and call does to them; no condition on the program. -/
import Derived.Test.YtifdekgmoekegaaDoorCx13
import Derived.OpenShut
import Derived.SizedLaws
namespace Go.Cx
open Go.RowKit Go.WideShapes Go.ChangeShapes

/-- What a cell may hold. -/
inductive CS where
  | bool
  | int (k : IntKind)
  | str
  | sl (es : List CS)
instance : Inhabited CS := ⟨.bool⟩

inductive ShOk : CS → V → Prop
  | bool (b : Bool) : ShOk .bool (.bool b)
  | int (k : IntKind) (n : Int) : (Lit.int k n).wf = true → ShOk (.int k) (.int k n)
  | str (s : ByteArray) : s.size ≤ maxLen → ShOk .str (.str s)
  | sl (es : List CS) (ys : List (List V)) : ys.length ≤ maxLen → (∀ i, i < ys.length → (ys.getD i []).length = es.length) →
      (∀ i j, i < ys.length → j < es.length → ShOk (es.getD j .bool) ((ys.getD i []).getD j .undef)) → ShOk (.sl es) (.psl es.length ys .any)

def phiW (w : World) : Phi := ⟨fun b o => (w.cell? ⟨b, o, none⟩).bind fun v => if v.oneCell' = true then some v else none, fun _ => none, fun b o v h => by
  simp only [Option.bind_eq_some_iff] at h
  obtain ⟨u, _, h⟩ := h
  split at h
  · simp only [Option.some.injEq] at h; subst h; assumption
  · cases h⟩

theorem phiW_cell {w : World} {b o : Nat} {v : Value} (h : w.cell? ⟨b, o, none⟩ = some v) (h1 : v.oneCell' = true) : (phiW w).cell b o = some v := by
  simp [phiW, h, h1]

/-- The listed variables hold what is listed. -/
def GlobW (w : World) : Prop := ∀ g cs, globTab g = some cs → Rv (phiW w) mu0 (.iptr cs) (.pointer (some ⟨g, 0, none⟩))

theorem phiW_rel {w : World} (hg : GlobW w) : Rel (phiW w) mu0 w.heap.size [] w := by
  refine ⟨hg, fun b o v h => ?_, fun b n h => (by cases h), fun i j b x y h => (by cases h), fun i b x h => (by cases h), fun i k h => (by cases h)⟩
  simp only [phiW, Option.bind_eq_some_iff] at h
  obtain ⟨u, h1, h⟩ := h
  split at h
  · simp only [Option.some.injEq] at h; subst h; exact h1
  · cases h

inductive Opn (w : World) : List CS → List V → List Value → Prop
  | nil : Opn w [] [] []
  | cons {s : CS} {v : V} {c : Value} {ss : List CS} {vs : List V} {cs : List Value} : ShOk s v → Rv (phiW w) mu0 v c → c.oneCell' = true → Opn w ss vs cs → Opn w (s :: ss) (v :: vs) (c :: cs)

theorem Opn.append {w : World} {s1 s2 : List CS} {v1 v2 : List V} {c1 c2 : List Value} (h : Opn w s1 v1 c1) (g : Opn w s2 v2 c2) : Opn w (s1 ++ s2) (v1 ++ v2) (c1 ++ c2) := by
  induction h with
  | nil => exact g
  | cons a b c _ ih => exact .cons a b c ih

theorem Opn.get {w : World} {ss : List CS} {vs : List V} {cs : List Value} (h : Opn w ss vs cs) : vs.length = ss.length ∧ cs.length = ss.length ∧
    ∀ j, j < ss.length → ShOk (ss.getD j .bool) (vs.getD j .undef) ∧ Rv (phiW w) mu0 (vs.getD j .undef) (cs.getD j Go.undef) ∧ (cs.getD j Go.undef).oneCell' = true := by
  induction h with
  | nil => exact ⟨rfl, rfl, fun j hj => by simp at hj⟩
  | cons a b c _ ih =>
    obtain ⟨l1, l2, ih⟩ := ih
    refine ⟨by simp [l1], by simp [l2], fun j hj => ?_⟩
    cases j with
    | zero => exact ⟨a, b, c⟩
    | succ j => simpa using ih j (by simpa using hj)

def fieldsSh (sh : TypeId → Option (List CS)) (co : TypeId → Nat) : List Field → Nat → Option (List CS)
  | [], _ => some []
  | f :: fs, pos =>
    match sh f.type with
    | some s => if f.offset = pos ∧ co f.type = s.length then (fieldsSh sh co fs (pos + s.length)).map (s ++ ·) else none
    | none => none

def shapeOf (P : Program) : Nat → TypeId → Option (List CS)
  | 0, _ => none
  | m + 1, t =>
    match P.underlying t with
    | some .bool => some [.bool]
    | some (.int k) => some [.int k]
    | some .string => some [.str]
    | some (.slice e) => (match shapeOf P m e with | some es => if P.cellsOf e = es.length ∧ 0 < es.length then some [.sl es] else none | none => none)
    | some (.struct fs) => (match fieldsSh (shapeOf P m) P.cellsOf fs.toList 0 with | some ss => if P.cellsOf t = ss.length then some ss else none | none => none)
    | some (.array n e) => (match shapeOf P m e with | some es => if P.cellsOf e = es.length ∧ P.cellsOf t = n * es.length then some (List.replicate n es).flatten else none | none => none)
    | _ => none

theorem fields_open {w : World} {sh : TypeId → Option (List CS)} {co : TypeId → Nat} {cs : List Value} : ∀ (fl : List Field) (pos : Nat) (ss : List CS), fieldsSh sh co fl pos = some ss →
    (∀ f ∈ fl, ∀ s, sh f.type = some s → ∃ vs, Opn w s vs ((cs.drop f.offset).take (co f.type))) → cs.length = pos + ss.length → ∃ vs, Opn w ss vs (cs.drop pos)
  | [], pos, ss, h, _, hl => by
    simp only [fieldsSh, Option.some.injEq] at h
    subst h
    rw [List.drop_eq_nil_of_le (by rw [hl]; simp)]
    exact ⟨[], .nil⟩
  | f :: fl, pos, ss, h, hf, hl => by
    unfold fieldsSh at h
    split at h
    · rename_i s hs
      split at h
      · rename_i hc
        rw [Option.map_eq_some_iff] at h
        obtain ⟨r, h1, rfl⟩ := h
        obtain ⟨v1, o1⟩ := hf f (by simp) s hs
        obtain ⟨v2, o2⟩ := fields_open fl (pos + s.length) r h1 (fun g hg => hf g (by simp [hg])) (by rw [hl]; simp [Nat.add_assoc])
        rw [hc.1, hc.2] at o1
        refine ⟨v1 ++ v2, ?_⟩
        have := o1.append o2
        rwa [← List.drop_drop, List.take_append_drop] at this
      · cases h
    · cases h

theorem arr_open {w : World} {s : List CS} {cs : List Value} : ∀ (k i : Nat), (∀ j, i ≤ j → j < i + k → ∃ vs, Opn w s vs ((cs.drop (j * s.length)).take s.length)) → cs.length = (i + k) * s.length → ∃ vs, Opn w (List.replicate k s).flatten vs (cs.drop (i * s.length))
  | 0, i, _, hl => by
    rw [List.drop_eq_nil_of_le (by rw [hl]; simp)]
    exact ⟨[], .nil⟩
  | k + 1, i, h, hl => by
    obtain ⟨v1, o1⟩ := h i (Nat.le_refl _) (by omega)
    obtain ⟨v2, o2⟩ := arr_open k (i + 1) (fun j h1 h2 => h j (by omega) (by omega)) (by rw [hl]; congr 1; omega)
    refine ⟨v1 ++ v2, ?_⟩
    have := o1.append o2
    rw [Nat.add_mul, Nat.one_mul, ← List.drop_drop, List.take_append_drop] at this
    rw [List.replicate_succ, List.flatten_cons]
    exact this

theorem list_choice {α : Type} {n : Nat} {p : Nat → α → Prop} (d : α) (h : ∀ i, i < n → ∃ y, p i y) : ∃ ys : List α, ys.length = n ∧ ∀ i, i < n → p i (ys.getD i d) := by
  induction n with
  | zero => exact ⟨[], rfl, fun i hi => by omega⟩
  | succ n ih =>
    obtain ⟨ys, l, hy⟩ := ih fun i hi => h i (by omega)
    obtain ⟨y, hy2⟩ := h n (by omega)
    refine ⟨ys ++ [y], by simp [l], fun i hi => ?_⟩
    rcases Nat.lt_or_ge i n with h' | h'
    · have : (ys ++ [y]).getD i d = ys.getD i d := by simp [List.getElem?_append_left (show i < ys.length by omega)]
      rw [this]; exact hy i h'
    · have hin : i = n := by omega
      subst hin
      have : (ys ++ [y]).getD i d = y := by simp [← l]
      rw [this]; exact hy2

section
variable {H : Type} {enc : TypeId × Value → H} {P : Program} {w : World} {base : Nat} {spare : Nat → Bool} {held : Bool}

theorem open_cells : ∀ (m fuel : Nat) (t : TypeId) (cs : List Value) (x : DataW H × List MemPlace) (ss : List CS), DataW.trod enc P w base spare held fuel t cs = some x → shapeOf P m t = some ss → ∃ vs, Opn w ss vs cs
  | 0, _, _, _, _, _, _, h => by cases h
  | m + 1, fuel, t, cs, x, ss, ht, hs => by
    unfold shapeOf at hs
    split at hs
    · rename_i hu
      obtain ⟨b, rfl, _⟩ := DataW.trod_bool hu ht
      simp only [Option.some.injEq] at hs; subst hs
      exact ⟨[.bool b], .cons (.bool _) (.bool _ _) rfl .nil⟩
    · rename_i k hu
      obtain ⟨n, rfl, _, hw⟩ := DataW.trod_int hu ht
      simp only [Option.some.injEq] at hs; subst hs
      exact ⟨[.int k n], .cons (.int _ _ hw) (.int _ _ _) rfl .nil⟩
    · rename_i hu
      obtain ⟨s, rfl, _, hw⟩ := DataW.trod_string hu ht
      simp only [Option.some.injEq] at hs; subst hs
      exact ⟨[.str s], .cons (.str _ hw) (.str _ _) rfl .nil⟩
    · rename_i e hu
      split at hs
      · rename_i es hes
        split at hs
        · rename_i hc
          simp only [Option.some.injEq] at hs; subst hs
          rcases DataW.trod_slice hu ht with ⟨rfl, _⟩ | ⟨a, len, cap, elems, rest, n, rfl, rfl, _, _, hlc, hcm, hel, hget, _, _⟩
          · exact ⟨[.psl es.length [] .any], .cons (.sl es [] (by simp) (fun i hi => by simp at hi) (fun i j hi => by simp at hi)) (.psl0 _ _ _ _) rfl .nil⟩
          · have hch : ∀ i, i < len → ∃ y : List V, ∃ ci, w.cells? base (a.add (i * P.cellsOf e)) (P.cellsOf e) = some ci ∧ Opn w es y ci := fun i hi => by
              have := hget i hi
              cases hci : w.cells? base (a.add (i * P.cellsOf e)) (P.cellsOf e) with
              | none =>
                rw [hci] at this
                simp only [Option.bind_none] at this
                have := List.getElem?_eq_none_iff.1 this.symm
                omega
              | some ci =>
                rw [hci] at this
                simp only [Option.bind_some] at this
                have hi' : i < elems.length := by omega
                rw [List.getElem?_eq_getElem hi'] at this
                obtain ⟨vs, ho⟩ := open_cells m n e ci _ es this hes
                exact ⟨vs, ci, rfl, ho⟩
            obtain ⟨ys, hl, hy⟩ := list_choice [] hch
            have hsh : ShOk (.sl es) (.psl es.length ys .any) := by
              refine .sl es ys (by omega) (fun i hi => ?_) (fun i j hi hj => ?_)
              · obtain ⟨ci, _, ho⟩ := hy i (by omega)
                exact ho.get.1
              · obtain ⟨ci, _, ho⟩ := hy i (by omega)
                exact (ho.get.2.2 j hj).1
            refine ⟨[.psl es.length ys .any], .cons hsh ?_ rfl .nil⟩
            cases hlen : len with
            | zero =>
              have : ys = [] := List.length_eq_zero_iff.1 (by omega)
              subst this
              exact .psl0 _ _ _ _
            | succ len' =>
              rw [hc.1] at hy
              have hspot : a.spot = none := by
                obtain ⟨ci, hci, ho⟩ := hy 0 (by omega)
                obtain ⟨_, l1, hcell⟩ := World.cells?_some hci
                have := hcell 0 hc.2
                rw [Nat.zero_mul] at this
                simp only [Addr.add, if_true] at this
                rw [List.getElem?_eq_getElem (by omega)] at this
                exact World.cell?_spot this
              obtain ⟨b, off, sp⟩ := a
              simp only at hspot
              subst hspot
              have hadd : ∀ i j, (Addr.add (Addr.add ⟨b, off, none⟩ (i * es.length)) j) = ⟨b, off + i * es.length + j, none⟩ := fun i j => by
                unfold Addr.add
                split <;> split <;> simp_all
              have hcell : ∀ i j, i < ys.length → j < es.length → ∃ ci : List Value, Opn w es (ys.getD i []) ci ∧ w.cell? ⟨b, off + i * es.length + j, none⟩ = some (ci.getD j Go.undef) := fun i j hi hj => by
                obtain ⟨ci, hci, ho⟩ := hy i (by omega)
                obtain ⟨_, l1, hcell⟩ := World.cells?_some hci
                refine ⟨ci, ho, ?_⟩
                rw [← hadd, hcell j hj]
                have : j < ci.length := by omega
                simp [this]
              rw [← hlen, ← hl]
              refine .psl _ _ _ _ b off cap (fun i j => (w.cell? ⟨b, off + i * es.length + j, none⟩).getD Go.undef) (by omega) (fun i hi => ?_) (fun i j hi hj => ?_) (fun i j hi hj => ?_) trivial
              · obtain ⟨ci, _, ho⟩ := hy i (by omega)
                exact ho.get.1
              · obtain ⟨ci, ho, hce⟩ := hcell i j hi hj
                rw [hce]
                exact phiW_cell hce (ho.get.2.2 j hj).2.2
              · obtain ⟨ci, ho, hce⟩ := hcell i j hi hj
                rw [hce]
                exact (ho.get.2.2 j hj).2.1
        · cases hs
      · cases hs
    · rename_i fs hu
      split at hs
      · rename_i ss' hf
        split at hs
        · rename_i hc
          simp only [Option.some.injEq] at hs; subst hs
          obtain ⟨xs, n, rfl, _, hl, hlx, hget⟩ := DataW.trod_struct hu ht
          have := fields_open (w := w) (cs := cs) fs.toList 0 ss' hf (fun f hf s hs => by
            obtain ⟨i, hi, he⟩ := List.getElem_of_mem hf
            have hi' : i < fs.size := by simpa using hi
            have h1 := hget i f (by rw [← he]; simp [hi'])
            rw [List.getElem?_eq_getElem (by omega)] at h1
            exact open_cells m n f.type _ _ s h1 hs) (by rw [hl, hc]; simp)
          simpa using this
        · cases hs
      · cases hs
    · rename_i n e hu
      split at hs
      · rename_i es hes
        split at hs
        · rename_i hc
          simp only [Option.some.injEq] at hs; subst hs
          obtain ⟨xs, k, rfl, _, hl, hlx, hget⟩ := DataW.trod_array hu ht
          have := arr_open (w := w) (s := es) (cs := cs) n 0 (fun j _ hj => by
            have h1 := hget j (by omega)
            rw [List.getElem?_eq_getElem (by omega), hc.1] at h1
            exact open_cells m k e _ _ es h1 hes) (by rw [hl, hc.2]; simp)
          simpa using this
        · cases hs
      · cases hs
    · cases hs

def isAgg (P : Program) (t : TypeId) : Bool :=
  match P.underlying t with
  | some (.struct _) | some (.array _ _) => true
  | _ => false

theorem open_agg {t : TypeId} {v : Value} {d : DataW H} {p : List MemPlace} {b0 : Nat} (m : Nat) {ss : List CS} (hs : shapeOf P m t = some ss) (ha : isAgg P t = true) (hv : Value.okWide P w .any b0 t v) (h : DataW.Trod enc P w base spare held t v d p) :
    ∃ vs : List V, vs.length = ss.length ∧ (∀ j, j < ss.length → ShOk (ss.getD j .bool) (vs.getD j .undef)) ∧ Rv (phiW w) mu0 (.agg vs) v := by
  have hagg : ∃ cs, v = .agg cs := by
    unfold isAgg at ha
    unfold Value.okWide at hv
    split at ha
    · rename_i hu; rw [hu] at hv; exact ⟨_, hv.choose_spec.1⟩
    · rename_i hu; rw [hu] at hv; exact ⟨_, hv.choose_spec.1⟩
    · cases ha
  obtain ⟨cs, rfl⟩ := hagg
  obtain ⟨fuel, hf⟩ := h
  obtain ⟨vs, ho⟩ := open_cells m fuel t _ _ ss hf hs
  obtain ⟨l1, l2, hg⟩ := ho.get
  refine ⟨vs, l1, fun j hj => (hg j hj).1, .agg _ _ _ (by rw [l1, ← l2]; simp [Value.cells]) fun j hj => ?_⟩
  have := (hg j (by omega)).2.1
  simpa [Value.cells, List.getD_eq_getElem?_getD, Array.getD_eq_getD_getElem?] using this

theorem open_one {t : TypeId} {v : Value} {d : DataW H} {p : List MemPlace} {b0 : Nat} (m : Nat) {s : CS} (hs : shapeOf P m t = some [s]) (ha : isAgg P t = false) (hv : Value.okWide P w .any b0 t v) (h : DataW.Trod enc P w base spare held t v d p) :
    ∃ u : V, ShOk s u ∧ Rv (phiW w) mu0 u v := by
  obtain ⟨fuel, hf⟩ := h
  obtain ⟨vs, ho⟩ := open_cells m fuel t _ _ _ hf hs
  generalize hcs : v.cells.toList = vc at ho
  cases ho with
  | cons h1 h2 h3 h4 =>
    rename_i u c vs' cs'
    cases h4
    refine ⟨u, h1, ?_⟩
    have hne : ∀ a, v ≠ .agg a := by
      cases m with
      | zero => cases hs
      | succ m =>
        unfold shapeOf at hs
        unfold isAgg at ha
        split at hs
        · rename_i hu; obtain ⟨_, rfl⟩ := okWide_bool hu hv; exact fun _ h => by cases h
        · rename_i hu; obtain ⟨_, rfl⟩ := okWide_int hu hv; exact fun _ h => by cases h
        · rename_i hu; obtain ⟨_, rfl⟩ := okWide_string hu hv; exact fun _ h => by cases h
        · rename_i hu; obtain ⟨_, _, _, rfl⟩ := okWide_slice hu hv; exact fun _ h => by cases h
        · rename_i hu; rw [hu] at ha; cases ha
        · rename_i hu; rw [hu] at ha; cases ha
        · cases hs
    have : v = c := by
      cases v <;> simp [Value.cells] at hcs <;> first | exact hcs | exact absurd rfl (hne _)
    rw [this]; exact h2
end

theorem CallTo.calls {P : Program} {g : FuncId} {cargs : Array Value} {w : World} {Q : Ending → World → Prop} (h : CallTo P g cargs w Q) (hb : bodyB P g = true) : Calls P g cargs w Q := by
  rcases h with h | ⟨v, h1, _⟩
  · exact h.2
  · rw [callFunc_enter (bodyB_ok hb)] at h1
    cases h1

theorem walk_true {P : Program} {g : FuncId} {W : World} {args : List V} {cargs : Array Value} (hb : bodyB P g = true) (hS : Sem P g args [] fun v _ => v = .bool true) (ha : RvL (phiW W) mu0 args cargs) (hg : GlobW W) :
    Calls P g cargs W fun e W' => e = .returned (.bool true) ∧ Below W.heap.size W W' := by
  refine ((hS.run (phiW W) mu0 W.heap.size W cargs (Nat.le_refl _) (phiW_rel hg) ha).mono ?_).calls hb
  rintro e W' ⟨v, h', φ', μ', cv, rfl, rfl, hv, _, _, hf⟩
  cases hv
  exact ⟨rfl, hf.os, hf.tape, hf.output, hf.size, fun k hk => hf.block k hk fun i x hi => by cases hi⟩

theorem rvl_nil (φ : Phi) (μ : Mu) : RvL φ μ [] #[] := ⟨rfl, fun j => by simp; exact .undef _ _⟩
theorem rvl1 {φ : Phi} {μ : Mu} {a : V} {x : Value} (h : Rv φ μ a x) : RvL φ μ [a] #[x] := ⟨rfl, fun j => by
  match j with
  | 0 => exact h
  | j + 1 => simp; exact .undef _ _⟩
theorem rvl2 {φ : Phi} {μ : Mu} {a b : V} {x y : Value} (h : Rv φ μ a x) (g : Rv φ μ b y) : RvL φ μ [a, b] #[x, y] := ⟨rfl, fun j => by
  match j with
  | 0 => exact h
  | 1 => exact g
  | j + 2 => simp; exact .undef _ _⟩
theorem rvl3 {φ : Phi} {μ : Mu} {a b c : V} {x y z : Value} (h : Rv φ μ a x) (g : Rv φ μ b y) (f : Rv φ μ c z) : RvL φ μ [a, b, c] #[x, y, z] := ⟨rfl, fun j => by
  match j with
  | 0 => exact h
  | 1 => exact g
  | 2 => exact f
  | j + 3 => simp; exact .undef _ _⟩

/-! ### Rows of plain cells, said as rows of plain things -/
theorem rows_of {α : Type} {es : List CS} {f : α → List V} {p : α → Prop} (hf : ∀ y : List V, y.length = es.length → (∀ j, j < es.length → ShOk (es.getD j .bool) (y.getD j .undef)) → ∃ a, y = f a ∧ p a) {v : V} (h : ShOk (.sl es) v) :
    ∃ xs : List α, v = .psl es.length (xs.map f) .any ∧ xs.length ≤ maxLen ∧ ∀ x ∈ xs, p x := by
  cases h with
  | sl _ ys h1 h2 h3 =>
    have key : ∀ l : List (List V), (∀ y ∈ l, ∃ a, y = f a ∧ p a) → ∃ xs : List α, l = xs.map f ∧ ∀ x ∈ xs, p x := by
      intro l
      induction l with
      | nil => exact fun _ => ⟨[], rfl, fun _ h => by cases h⟩
      | cons y l ih =>
        intro hl
        obtain ⟨a, rfl, ha⟩ := hl y (by simp)
        obtain ⟨xs, rfl, hx⟩ := ih fun z hz => hl z (by simp [hz])
        exact ⟨a :: xs, rfl, fun x hx' => by rcases List.mem_cons.1 hx' with rfl | h; exact ha; exact hx x h⟩
    obtain ⟨xs, rfl, hx⟩ := key ys fun y hy => by
      obtain ⟨i, hi, he⟩ := List.getElem_of_mem hy
      have hd : ys.getD i [] = y := by rw [← he]; simp [hi]
      exact hf y (by rw [← hd]; exact h2 i hi) fun j hj => by rw [← hd]; exact h3 i j hi hj
    exact ⟨xs, rfl, by simpa using h1, hx⟩
end Go.Cx
