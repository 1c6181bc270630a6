/- A calculus for calls of the program: canonical values and heaps, and what each operation, loop and call does to them; no condition on the program. -/
import Derived.Test.YtifdekgmoekegaaDoorCx7c
namespace Go.Cx
open Go.RowKit

theorem RvA.app {φ : Phi} {μ : Mu} {xs ys : List V} {a b : Array Value} (h1 : RvA φ μ xs a) (h2 : RvA φ μ ys b) : RvA φ μ (xs ++ ys) (a ++ b) := by
  refine ⟨by simp [h1.1, h2.1], fun j hj => ?_⟩
  simp only [List.length_append] at hj
  have l1 := h1.1
  by_cases h : j < xs.length
  · have e1 : (xs ++ ys).getD j .undef = xs.getD j .undef := by
      rw [List.getD_eq_getElem?_getD, List.getElem?_append_left h, ← List.getD_eq_getElem?_getD]
    have e2 : (a ++ b).getD j Go.undef = a.getD j Go.undef := by
      have : j < a.size := by omega
      simp [Array.getD_eq_getD_getElem?, Array.getElem?_append, this]
    rw [e1, e2]; exact h1.2 j h
  · have e1 : (xs ++ ys).getD j .undef = ys.getD (j - xs.length) .undef := by
      simp [List.getD_eq_getElem?_getD, List.getElem?_append_right (Nat.le_of_not_lt h)]
    have e2 : (a ++ b).getD j Go.undef = b.getD (j - xs.length) Go.undef := by
      have : ¬ j < a.size := by omega
      simp [Array.getD_eq_getD_getElem?, Array.getElem?_append, this, l1]
    rw [e1, e2]; exact h2.2 _ (by omega)

/-- The first cells of a row are known. -/
theorem RvA.front {φ : Phi} {μ : Mu} {xs : List V} {a b : Array Value} (h : RvA φ μ xs a) : xs.length ≤ (a ++ b).size ∧ ∀ j, j < xs.length → Rv φ μ (xs.getD j .undef) ((a ++ b).getD j Go.undef) := by
  refine ⟨by simp [h.1], fun j hj => ?_⟩
  have e2 : (a ++ b).getD j Go.undef = a.getD j Go.undef := by
    have : j < a.size := by rw [← h.1]; exact hj
    simp [Array.getD_eq_getD_getElem?, Array.getElem?_append, this]
  rw [e2]; exact h.2 j hj

theorem app_take {φ : Phi} {μ : Mu} {cs vs : List V} {c : Array Value} {us : List Value} (h : ∀ j, j < cs.length → Rv φ μ (cs.getD j .undef) (c.getD j Go.undef)) (hv : RvA φ μ vs us.toArray) (ho : cs.length + us.length ≤ c.size) :
    ∀ j, j < (cs ++ vs).length → Rv φ μ ((cs ++ vs).getD j .undef) ((c.toList.take cs.length ++ us ++ c.toList.drop (cs.length + us.length)).toArray.getD j Go.undef) := fun j hj => by
  have e2 : ∀ (x : List Value), x.toArray.getD j Go.undef = x.getD j Go.undef := fun x => by simp
  rw [e2]
  have hl : vs.length = us.length := by simpa using hv.1
  simp only [List.length_append] at hj
  by_cases h1 : j < cs.length
  · have a1 : (cs ++ vs).getD j .undef = cs.getD j .undef := by
      rw [List.getD_eq_getElem?_getD, List.getElem?_append_left h1, List.getD_eq_getElem?_getD]
    have a2 : (c.toList.take cs.length ++ us ++ c.toList.drop (cs.length + us.length)).getD j Go.undef = c.getD j Go.undef := by
      rw [List.getD_eq_getElem?_getD, List.getElem?_append_left (by simp; omega), List.getElem?_append_left (by simp; omega), List.getElem?_take_of_lt h1]
      simp
    rw [a1, a2]; exact h j h1
  · have a1 : (cs ++ vs).getD j .undef = vs.getD (j - cs.length) .undef := by
      rw [List.getD_eq_getElem?_getD, List.getElem?_append_right (by omega), List.getD_eq_getElem?_getD]
    have a2 : (c.toList.take cs.length ++ us ++ c.toList.drop (cs.length + us.length)).getD j Go.undef = us.toArray.getD (j - cs.length) Go.undef := by
      rw [List.getD_eq_getElem?_getD, List.getElem?_append_left (by simp; omega), List.getElem?_append_right (by simp; omega)]
      have : j - (c.toList.take cs.length).length = j - cs.length := by simp; omega
      rw [this]; simp
    rw [a1, a2]; exact hv.2 _ (by omega)

theorem elems_ok {P : Program} {φ : Phi} {μ : Mu} {B : Nat} {h : Heap} {sz : Nat} {x : V} {cx : Value} {ys : List (List V)} (hx : Rv φ μ x cx) (hy : elemsOf sz x = some ys) :
    Builtin.lenOf cx = pure ys.length ∧ ∃ l, Flat φ sz ys l ∧ ∀ (w' : World), Rel φ μ B h w' → (Builtin.firstCells sz ys.length cx).run P w' = .ok l.toArray w' := by
  unfold elemsOf at hy
  split at hy
  · rename_i s xs tk
    cases hs : (s == sz) with
    | false => rw [hs] at hy; cases hy
    | true =>
      rw [hs] at hy
      simp only [cond_true, Option.some.injEq] at hy
      subst hy
      have : s = sz := by simpa using hs
      subst this
      cases hx with
      | psl0 _ _ aa cap =>
        refine ⟨rfl, [], ⟨by simp, fun _ h => by simp at h, fun i hi => by simp at hi, fun i j hi => by simp at hi⟩, fun w' _ => ?_⟩
        cases aa with
        | none => rfl
        | some ad => simp [Builtin.firstCells, loadCells, loadCellsFrom]
      | psl _ _ _ _ b off cap c c0 c1 c2 c3 c4 =>
        obtain ⟨l, hl, hc⟩ := flat_of_psl c1 c2 c3
        exact ⟨rfl, l, hl, fun w' r' => run_first r' hl.len hc⟩
  · simp only [Option.some.injEq] at hy
    subst hy
    cases hx
    exact ⟨rfl, [], ⟨by simp, fun _ h => by simp at h, fun i hi => by simp at hi, fun i j hi => by simp at hi⟩, fun w' _ => rfl⟩
  · cases hy

theorem cond_some {α : Type} {b : Bool} {x : Option α} {r : α} (h : cond b x none = some r) : b = true ∧ x = some r := by
  cases b with
  | false => cases h
  | true => exact ⟨rfl, h⟩

section
variable {P : Program} {T : Nat → Option TI} (hT : TOk P T) {φ : Phi} {μ : Mu} {B : Nat} {h : Heap} {w : World} (hB : B ≤ w.heap.size) (r : Rel φ μ B h w) {nid : Nat} {out : Out} (hc : out.c = true) (hnid : nid + out.nw ≤ h.length) (hfree : ∀ q, q < out.nw → μ (nid + q) = none)
include hT hB r hc hnid hfree

omit hT hc hnid hfree in
/-- A row that grows, new or in the place of what it was. -/
theorem grown {t xt e ty : Nat} {dx : TypeDesc} {ei : TI} {i2 : TypeInfo} {d2 : TypeDesc} {z2 : Value} (hut : P.underlying t = some (.slice e)) (hux : P.underlying xt = some dx) (hdx : sliceish dx) (k2 : tiOk P e ei i2 d2 z2) {base : Option Addr} {n cap : Nat} {cx : Value} {el : El} {l : List Value} (hel : ElR P φ μ w ei.size el cx l)
    {old : List V} {lo : List Value} (hlo : lo.length = n * ei.size) (hold : RvA φ μ old lo.toArray) (hcap : cap < n + el.n) (hfit : fitsB ei (n + el.n) = true) (hfirst : (Builtin.firstCells ei.size n (.slice base n cap)).run P { w with drawn := w.drawn + 1 } = .ok lo.toArray { w with drawn := w.drawn + 1 })
    {id ver szb : Nat} (hl : id < h.length) (hid : μ id = none ∨ ∃ b0 m, μ id = some (b0, some m) ∧ m < ver) (hwr : out.wr = [(id, .grow ver e szb (old ++ el.vs))]) (hv : out.v = .gsl id ei.size 0 (n + el.n) (n + el.n) false ver) (hch : (nid ≤ id ∧ id < nid + out.nw) ∨ μ id ≠ none) :
    ∃ cv w', (Builtin.append_ #[t, xt] ty #[.slice base n cap, cx]).run P w = .ok cv w' ∧ OutR φ μ B h w nid out cv w' := by
  obtain ⟨q1, q2, q3⟩ := fitsB_spec hfit
  have hnew := hel.first el.n { w with drawn := w.drawn + 1 } (Nat.le_refl _) rfl
  rw [List.take_of_length_le (by rw [hel.sl]; exact Nat.le_refl _)] at hnew
  obtain ⟨ncap, hge, hrun⟩ := run_append_grow (P := P) (ty := ty) (w := w) (base := base) (old := lo.toArray) (new := l.toArray) hut hux hdx k2.info k2.zero (by rw [k2.bytes]; exact q2) hel.len hcap (by rw [k2.bytes]; exact q3) (by rw [k2.size]; exact hfirst) (by rw [k2.size]; exact hnew)
  have hall := hold.app hel.rv
  have hfr := hall.front (b := Builtin.zeroCells z2.cells (ncap - (n + el.n)))
  have hzc : (Builtin.zeroCells z2.cells (ncap - (n + el.n))).size = (ncap - (n + el.n)) * ei.size := by simp [Builtin.zeroCells, k2.zcells]
  have hcsz : (lo.toArray ++ l.toArray ++ Builtin.zeroCells z2.cells (ncap - (n + el.n))).size = ncap * ei.size := by
    rw [Array.size_append, hzc]
    simp only [Array.size_append, List.size_toArray, hlo, hel.sl]
    rw [← Nat.add_mul, ← Nat.add_mul]
    congr 1; omega
  have rd : Rel φ μ B h { w with drawn := w.drawn + 1 } := r.drawn _
  obtain ⟨g1, g2⟩ := rd.growNew (hB := hB) (id := id) (ver := ver) (sz := szb) hl hid (e := e) hfr.1 hfr.2
  refine ⟨_, _, hrun, ?_⟩
  refine OutR.drawn (n := w.drawn + 1) ?_
  refine ⟨_, _, ?_, by rw [hwr]; exact g1, g2, Fr.alloc _ _ _, fun i hi => ?_⟩
  · rw [hv]
    refine .gsl _ _ _ _ _ _ _ _ w.heap.size ver ncap _ (by unfold Mu.add; rw [if_pos rfl]) (Nat.le_refl _) hge hge (fun e => by cases e) (fun _ => ⟨rfl, (lo.toArray ++ l.toArray ++ Builtin.zeroCells z2.cells (ncap - (n + el.n))).size, by simp only [Phi.sized, if_true], ?_⟩)
    rw [hcsz]; omega
  · have : i = id := by
      rcases Nat.decEq i id with h' | h'
      · exfalso; apply hi; unfold Mu.add; rw [if_neg h']
      · exact h'
    subst this
    exact ⟨⟨_, by rw [hwr]; exact List.mem_singleton.2 rfl⟩, hch⟩

set_option maxHeartbeats 4000000 in
theorem appendF_ok {md : Bool} {t xt ty : Nat} {s x : V} {cs cx : Value} (hs : Rv φ μ s cs) (hx : Rv φ μ x cx) (hf : appendF T md t xt s x (hget h) nid = some out) :
    ∃ cv w', (Builtin.append_ #[t, xt] ty #[cs, cx]).run P w = .ok cv w' ∧ OutR φ μ B h w nid out cv w' := by
  unfold appendF at hf
  split at hf
  · rename_i ti xi hti hxi
    obtain ⟨i, d, z, k⟩ := hT t ti hti
    obtain ⟨i1, d1, z1, k1⟩ := hT xt xi hxi
    split at hf
    · rename_i e hk1
      have hd := kind_slice (show kindOk (.slice e) d = true from hk1 ▸ k.kind)
      subst hd
      split at hf
      · rename_i ei hei
        obtain ⟨i2, d2, z2, k2⟩ := hT e ei hei
        split at hf
        · rename_i el hel
          replace hf := cond_some hf
          obtain ⟨hsk, hf⟩ := hf
          have hdx := slcK_spec hsk k1.kind
          have rd : Rel φ μ B h { w with drawn := w.drawn + 1 } := r.drawn _
          have frd := Fr.drawn μ w (w.drawn + 1)
          -- a new row
          have newg : ∀ {base : Option Addr} {n cap : Nat} {ok : Bool} {old : List V} {lo : List Value} {acc : List Nat}, newG ei e el ok old n nid acc = out → lo.length = n * ei.size → RvA φ μ old lo.toArray → (el.ok = true → cap < n + el.n) →
              (Builtin.firstCells ei.size n (.slice base n cap)).run P { w with drawn := w.drawn + 1 } = .ok lo.toArray { w with drawn := w.drawn + 1 } → ∃ cv w', (Builtin.append_ #[t, xt] ty #[.slice base n cap, cx]).run P w = .ok cv w' ∧ OutR φ μ B h w nid out cv w' := fun hout hlo hold hcap hfirst => by
            subst hout
            simp only [newG, Bool.and_eq_true] at hc
            obtain ⟨⟨_, helok⟩, hfit⟩ := hc
            obtain ⟨l, hel'⟩ := rdE_ok (P := P) r hx hel helok
            have hfr0 := hfree 0 (by simp [newG])
            rw [Nat.add_zero] at hfr0
            exact grown hB r k.und k1.und hdx k2 hel' hlo hold (hcap helok) hfit hfirst (by simp only [newG] at hnid; omega) (.inl hfr0) rfl rfl (.inl ⟨Nat.le_refl _, by simp [newG]⟩)
          cases h0 : Nat.beq el.n 0 with
          | true =>
            rw [h0] at hf
            simp only [cond_true] at hf
            replace hf := cond_some hf
            obtain ⟨hsl, hf⟩ := hf
            simp only [Option.some.injEq] at hf
            subst hf
            have h0 := Nat.eq_of_beq_eq_true h0
            obtain ⟨l, hel'⟩ := rdE_ok (P := P) r hx hel hc
            have hlen := hel'.len
            have hfst := hel'.first 0 w (Nat.zero_le _) rfl
            rw [h0] at hlen
            simp only [Nat.zero_mul, List.take_zero] at hfst
            rw [← k2.size] at hfst
            have none : ∀ {base : Option Addr} {n cap : Nat}, n ≤ cap → cs = .slice base n cap → ∃ cv w', (Builtin.append_ #[t, xt] ty #[cs, cx]).run P w = .ok cv w' ∧ OutR φ μ B h w nid ⟨el.ok, s, [], el.acc, 0⟩ cv w' := fun hle hcs => by
              subst hcs
              exact ⟨_, w, run_append_none k.und k1.und hdx k2.info hlen hle hfst, OutR.same r hs rfl⟩
            cases hs with
            | nils => exact none (Nat.le_refl _) rfl
            | psl0 => exact none (Nat.zero_le _) rfl
            | psl _ _ _ _ b off cap c c0 c1 c2 c3 c4 => exact none c0 rfl
            | lsl _ _ _ _ _ _ b hb hcap => exact none hcap rfl
            | gsl _ _ _ _ _ _ _ _ b m cc a g1 g2 g3 g4 g5 g6 => exact none g3 rfl
            | _ => cases hsl
          | false =>
            rw [h0] at hf
            simp only [cond_false] at hf
            have hpos : 0 < el.n := by
              rcases Nat.eq_zero_or_pos el.n with h1 | h1
              · rw [h1] at h0; cases h0
              · exact h1
            split at hf
            · -- nothing was
              cases hs
              cases md with
              | true =>
                simp only [cond_true, Option.some.injEq] at hf
                exact newg (lo := []) (n := 0) hf (by simp) ⟨rfl, fun j hj => by simp at hj⟩ (fun _ => by omega) (by simp [Builtin.firstCells])
              | false =>
                simp only [cond_false] at hf
                split at hf
                · rename_i ys hy
                  simp only [Option.some.injEq] at hf
                  subst hf
                  obtain ⟨q1, q2, q3⟩ := fitsB_spec hc
                  obtain ⟨hlen, l, hl, hfirst⟩ := elems_ok (P := P) (B := B) (h := h) hx hy
                  have hf := hfirst _ rd
                  rw [← k2.size] at hf
                  have hyp : 0 < ys.length := by
                    unfold elemsOf at hy
                    split at hy
                    · rename_i s' xs tk
                      obtain ⟨hsz, hy⟩ := cond_some hy
                      simp only [Option.some.injEq] at hy
                      subst hy
                      simp only [rdE, Option.some.injEq] at hel
                      subst hel
                      exact hpos
                    · simp only [rdE, Option.some.injEq] at hel
                      subst hel
                      cases hpos
                    · cases hy
                  obtain ⟨ncap, hge, hrun⟩ := run_append_grow (P := P) (ty := ty) (w := w) (base := none) (sLen := 0) (sCap := 0) (old := #[]) (new := l.toArray) k.und k1.und hdx k2.info k2.zero (by rw [k2.bytes]; exact q2) hlen (by omega) (by rw [k2.bytes]; simpa using q3) rfl hf
                  have hzc : (Builtin.zeroCells z2.cells (ncap - (0 + ys.length))).size = (ncap - (0 + ys.length)) * ei.size := by simp [Builtin.zeroCells, k2.zcells]
                  have hcsz : (#[] ++ l.toArray ++ Builtin.zeroCells z2.cells (ncap - (0 + ys.length))).size = ncap * ei.size := by
                    rw [Array.size_append, hzc]
                    simp only [Array.size_append, List.size_toArray, hl.len, List.length_nil, Nat.zero_add]
                    rw [← Nat.add_mul]
                    congr 1; omega
                  have hfr0 := hfree 0 (by simp)
                  rw [Nat.add_zero] at hfr0
                  obtain ⟨t1, t2, t3⟩ := rd.tokenNew (hB := hB) (id := nid) (n := ys.length) (sz := ei.size) (l := l) (c := #[] ++ l.toArray ++ Builtin.zeroCells z2.cells (ncap - (0 + ys.length))) (e := e) (became_set h (by simp only at hnid; omega) _) (.inl hfr0) hl.len (fun q hq => by
                    rw [Array.getElem?_append_left (by simp at hq ⊢; omega)]; simp) hl.one
                  refine ⟨_, _, hrun, OutR.drawn (n := w.drawn + 1) ⟨_, _, ?_, t2, t3, Fr.alloc _ _ _, fun i hi => ?_⟩⟩
                  · have := (hl.mono t1).toRv (μ := μ.add nid w.heap.size (some ys.length)) (b := w.heap.size) (off := 0) (cap := ncap) (tok := .own nid) (by omega) (fun q hq => by
                      simp only [Phi.row]
                      rw [if_pos ⟨trivial, by omega, by omega⟩]
                      rw [List.getD_eq_getElem?_getD, Nat.zero_add, Nat.sub_zero, List.getElem?_eq_getElem hq]
                      rfl) ⟨w.heap.size, _, by unfold Mu.add; rw [if_pos rfl], Nat.le_refl _, fun _ => ⟨rfl, rfl, q1, by simp only [Phi.row, if_true]; rw [hcsz]⟩⟩
                    rw [show (Value.slice (some ⟨w.heap.size, 0, none⟩) (0 + ys.length) ncap) = .slice (some ⟨w.heap.size, 0, none⟩) ys.length ncap by rw [Nat.zero_add]]
                    exact this
                  · have : i = nid := by
                      rcases Nat.decEq i nid with h' | h'
                      · exfalso; apply hi; unfold Mu.add; rw [if_neg h']
                      · exact h'
                    subst this
                    exact ⟨⟨_, List.mem_singleton.2 rfl⟩, .inl ⟨Nat.le_refl _, by simp⟩⟩
                · cases hf
            · rename_i sz xs
              cases hs with
              | psl _ _ _ _ b off cap c c0 c1 c2 c3 c4 =>
                have c4' : cap = xs.length := c4
                obtain ⟨lx, hX, hcx⟩ := flat_of_psl c1 c2 c3
                cases md with
                | true =>
                  simp only [cond_true, Option.some.injEq] at hf
                  have hsz : sz = ei.size := by
                    have : (newG ei e el (Nat.beq sz ei.size) xs.flatten xs.length nid []).c = true := hf ▸ hc
                    simp only [newG, Bool.and_eq_true] at this
                    exact Nat.eq_of_beq_eq_true this.1.1
                  subst hsz
                  obtain ⟨lx', hx'⟩ := rdE_ok (P := P) r (x := .psl ei.size xs .exact) (.psl _ _ _ _ _ _ _ c c0 c1 c2 c3 c4) (sz := ei.size) rfl (Nat.beq_refl _)
                  have hff := hx'.first xs.length { w with drawn := w.drawn + 1 } (Nat.le_refl _) rfl
                  have hsl : lx'.length = xs.length * ei.size := hx'.sl
                  rw [List.take_of_length_le (by rw [hsl]; exact Nat.le_refl _)] at hff
                  exact newg hf hsl hx'.rv (fun _ => by omega) hff
                | false =>
                  simp only [cond_false] at hf
                  split at hf
                  · rename_i ys hy
                    simp only [Option.some.injEq] at hf
                    subst hf
                    simp only [Bool.and_eq_true] at hc
                    obtain ⟨hsz, hfit⟩ := hc
                    have hsz := Nat.eq_of_beq_eq_true hsz
                    subst hsz
                    obtain ⟨q1, q2, q3⟩ := fitsB_spec hfit
                    obtain ⟨hlen, l, hl, hfirst⟩ := elems_ok (P := P) (B := B) (h := h) hx hy
                    have hf := hfirst _ rd
                    rw [← k2.size] at hf
                    have hyp : 0 < ys.length := by
                      unfold elemsOf at hy
                      split at hy
                      · rename_i s' xs tk
                        obtain ⟨hsz, hy⟩ := cond_some hy
                        simp only [Option.some.injEq] at hy
                        subst hy
                        simp only [rdE, Option.some.injEq] at hel
                        subst hel
                        exact hpos
                      · simp only [rdE, Option.some.injEq] at hel
                        subst hel
                        cases hpos
                      · cases hy
                    have hold := run_first (P := P) (n := xs.length) (m := xs.length) (cap := cap) rd hX.len hcx
                    rw [← k2.size] at hold
                    obtain ⟨ncap, hge, hrun⟩ := run_append_grow (P := P) (ty := ty) (w := w) (base := some ⟨b, off, none⟩) (sLen := xs.length) (sCap := cap) (old := lx.toArray) (new := l.toArray) k.und k1.und hdx k2.info k2.zero (by rw [k2.bytes]; exact q2) hlen (by omega) (by rw [k2.bytes]; exact q3) hold hf
                    have hall := hX.append hl
                    have hzc : (Builtin.zeroCells z2.cells (ncap - (xs.length + ys.length))).size = (ncap - (xs.length + ys.length)) * ei.size := by simp [Builtin.zeroCells, k2.zcells]
                    have hcsz : (lx.toArray ++ l.toArray ++ Builtin.zeroCells z2.cells (ncap - (xs.length + ys.length))).size = ncap * ei.size := by
                      rw [Array.size_append, hzc]
                      simp only [Array.size_append, List.size_toArray, hX.len, hl.len]
                      rw [← Nat.add_mul, ← Nat.add_mul]
                      congr 1; omega
                    have hfr0 := hfree 0 (by simp)
                    rw [Nat.add_zero] at hfr0
                    obtain ⟨t1, t2, t3⟩ := rd.tokenNew (hB := hB) (id := nid) (n := xs.length + ys.length) (sz := ei.size) (l := lx ++ l) (c := lx.toArray ++ l.toArray ++ Builtin.zeroCells z2.cells (ncap - (xs.length + ys.length))) (e := e) (became_set h (by simp only at hnid; omega) _) (.inl hfr0) (by rw [hall.len]; simp) (fun q hq => by
                      rw [Array.getElem?_append_left (by simp at hq ⊢; omega), show lx.toArray ++ l.toArray = (lx ++ l).toArray from by simp, List.getElem?_toArray]) hall.one
                    refine ⟨_, _, hrun, OutR.drawn (n := w.drawn + 1) ⟨_, _, ?_, t2, t3, Fr.alloc _ _ _, fun i hi => ?_⟩⟩
                    · have := (hall.mono t1).toRv (μ := μ.add nid w.heap.size (some (xs.length + ys.length))) (b := w.heap.size) (off := 0) (cap := ncap) (tok := .own nid) (by simp; omega) (fun q hq => by
                        simp only [Phi.row]
                        rw [if_pos ⟨trivial, by omega, by omega⟩]
                        rw [List.getD_eq_getElem?_getD, Nat.zero_add, Nat.sub_zero, List.getElem?_eq_getElem hq]
                        rfl) ⟨w.heap.size, _, by unfold Mu.add; rw [if_pos rfl], by simp, fun _ => ⟨rfl, rfl, q1, by simp only [Phi.row, if_true]; rw [hcsz]⟩⟩
                      rw [List.length_append] at this
                      exact this
                    · have : i = nid := by
                        rcases Nat.decEq i nid with h' | h'
                        · exfalso; apply hi; unfold Mu.add; rw [if_neg h']
                        · exact h'
                      subst this
                      exact ⟨⟨_, List.mem_singleton.2 rfl⟩, .inl ⟨Nat.le_refl _, by simp⟩⟩
                  · cases hf
            · rename_i sz xs id
              split at hf
              · rename_i ys s' n hy hh
                simp only [Option.some.injEq] at hf
                subst hf
                simp only [Bool.and_eq_true] at hc
                obtain ⟨⟨⟨hsz, hs'⟩, hn⟩, hfit⟩ := hc
                have hsz := Nat.eq_of_beq_eq_true hsz
                have hs' := Nat.eq_of_beq_eq_true hs'
                have hn := Nat.eq_of_beq_eq_true hn
                subst hsz; subst hs'; subst hn
                obtain ⟨q1, q2, q3⟩ := fitsB_spec hfit
                obtain ⟨hlen, l, hl, hfirst⟩ := elems_ok (P := P) (B := B) (h := h) hx hy
                have hf := hfirst _ rd
                rw [← k2.size] at hf
                have hyp : 0 < ys.length := by
                  unfold elemsOf at hy
                  split at hy
                  · rename_i s' xs tk
                    obtain ⟨hsz, hy⟩ := cond_some hy
                    simp only [Option.some.injEq] at hy
                    subst hy
                    simp only [rdE, Option.some.injEq] at hel
                    subst hel
                    exact hpos
                  · simp only [rdE, Option.some.injEq] at hel
                    subst hel
                    cases hpos
                  · cases hy
                obtain ⟨b', x', hb', hx', c', e', g1, g2, g3⟩ := r.blk id _ hh
                subst hx'
                have hidl : id < h.length := (r.dom id _ _ hb').1
                cases hs with
                | psl _ _ _ _ b off cap c c0 c1 c2 c3 c4 =>
                  obtain ⟨lx, hX, hcx⟩ := flat_of_psl c1 c2 c3
                  obtain ⟨bb, m, m1, m2, m3⟩ := c4
                  rw [hb'] at m1
                  simp only [Option.some.injEq, Prod.mk.injEq] at m1
                  obtain ⟨rfl, rfl⟩ := m1
                  obtain ⟨rfl, rfl, m4, m5⟩ := m3 rfl
                  rw [g2] at m5
                  simp only [Option.some.injEq] at m5
                  have hall := hX.append hl
                  have fin : ∀ i, (μ.add id b' (some (xs.length + ys.length))) i ≠ μ i → i = id := fun i hi => by
                    rcases Nat.decEq i id with h' | h'
                    · exfalso; apply hi; unfold Mu.add; rw [if_neg h']
                    · exact h'
                  by_cases hfit' : xs.length + ys.length ≤ cap
                  · -- in place
                    have hf0 := hfirst w r
                    rw [← k2.size] at hf0
                    have hmul : (xs.length + ys.length) * ei.size ≤ c'.size := by rw [m5]; exact Nat.mul_le_mul_right _ hfit'
                    have hst := run_storeCells_at P b' (xs.length * ei.size) e' l 0 c' w g1 (by rw [hl.len, Nat.add_zero, ← Nat.add_mul]; exact hmul) hl.one
                    simp only [Nat.add_zero] at hst
                    have hadd : (⟨b', 0, none⟩ : Addr).add (xs.length * i2.size) = ⟨b', xs.length * ei.size, none⟩ := by rw [k2.size, ad_eq, Nat.zero_add]
                    obtain ⟨t1, t2, t3⟩ := r.tokenFit (n := xs.length + ys.length) hh hb' (by omega) g1 (by rw [hl.len, ← Nat.add_mul]) hmul hl.one
                    have hrun := run_append_fit (ty := ty) (w' := w.setRow b' (c'.toList.take (xs.length * ei.size) ++ l ++ c'.toList.drop (xs.length * ei.size + l.length)).toArray) k.und k1.und hdx k2.info hlen hfit' hf0 (by rw [hadd]; exact hst)
                    refine ⟨_, _, hrun, _, _, ?_, t2, t3, Fr.setRow hb' _, fun i hi => ?_⟩
                    · have := (hall.mono t1).toRv (μ := μ.add id b' (some (xs.length + ys.length))) (b := b') (off := 0) (cap := cap) (tok := .own id) (by simpa using hfit') (fun q hq => by
                        rw [List.length_append] at hq
                        simp only [Phi.row]
                        by_cases hql : q < lx.length
                        · rw [if_neg (by rw [hX.len] at hql; omega)]
                          rw [hcx q hql]
                          rw [List.getD_eq_getElem?_getD, List.getD_eq_getElem?_getD, List.getElem?_append_left hql]
                        · rw [if_pos ⟨trivial, by rw [hX.len] at hql; omega, by rw [← hX.len]; omega⟩]
                          rw [List.getD_eq_getElem?_getD, List.getElem?_append_right (by omega), List.getElem?_eq_getElem (by have := hX.len; omega), List.getElem?_eq_getElem (by omega)]
                          simp only [Option.getD_some, Option.some.injEq]
                          congr 1
                          have := hX.len; omega) ⟨b', _, by unfold Mu.add; rw [if_pos rfl], by simp, fun _ => ⟨rfl, rfl, q1, by simp only [Phi.row, if_true]; rw [m5]⟩⟩
                      rw [List.length_append] at this
                      exact this
                    · have := fin i hi
                      subst this
                      exact ⟨⟨_, List.mem_singleton.2 rfl⟩, .inr (by rw [hb']; simp)⟩
                  · have hold := run_first (P := P) (n := xs.length) (m := xs.length) (cap := cap) rd hX.len hcx
                    rw [← k2.size] at hold
                    obtain ⟨ncap, hge, hrun⟩ := run_append_grow (P := P) (ty := ty) (w := w) (base := some ⟨b', 0, none⟩) (sLen := xs.length) (sCap := cap) (old := lx.toArray) (new := l.toArray) k.und k1.und hdx k2.info k2.zero (by rw [k2.bytes]; exact q2) hlen (by omega) (by rw [k2.bytes]; exact q3) hold hf
                    have hzc : (Builtin.zeroCells z2.cells (ncap - (xs.length + ys.length))).size = (ncap - (xs.length + ys.length)) * ei.size := by simp [Builtin.zeroCells, k2.zcells]
                    have hcsz : (lx.toArray ++ l.toArray ++ Builtin.zeroCells z2.cells (ncap - (xs.length + ys.length))).size = ncap * ei.size := by
                      rw [Array.size_append, hzc]
                      simp only [Array.size_append, List.size_toArray, hX.len, hl.len]
                      rw [← Nat.add_mul, ← Nat.add_mul]
                      congr 1; omega
                    obtain ⟨t1, t2, t3⟩ := rd.tokenNew (hB := hB) (id := id) (n := xs.length + ys.length) (sz := ei.size) (l := lx ++ l) (c := lx.toArray ++ l.toArray ++ Builtin.zeroCells z2.cells (ncap - (xs.length + ys.length))) (e := e) (became_set h hidl _) (.inr ⟨b', xs.length, hb', by omega⟩) (by rw [hall.len]; simp) (fun q hq => by
                      rw [Array.getElem?_append_left (by simp at hq ⊢; omega), show lx.toArray ++ l.toArray = (lx ++ l).toArray from by simp, List.getElem?_toArray]) hall.one
                    refine ⟨_, _, hrun, OutR.drawn (n := w.drawn + 1) ⟨_, _, ?_, t2, t3, Fr.alloc _ _ _, fun i hi => ?_⟩⟩
                    · have := (hall.mono t1).toRv (μ := μ.add id w.heap.size (some (xs.length + ys.length))) (b := w.heap.size) (off := 0) (cap := ncap) (tok := .own id) (by simp; omega) (fun q hq => by
                        simp only [Phi.row]
                        rw [if_pos ⟨trivial, by omega, by omega⟩]
                        rw [List.getD_eq_getElem?_getD, Nat.zero_add, Nat.sub_zero, List.getElem?_eq_getElem hq]
                        rfl) ⟨w.heap.size, _, by unfold Mu.add; rw [if_pos rfl], by simp, fun _ => ⟨rfl, rfl, q1, by simp only [Phi.row, if_true]; rw [hcsz]⟩⟩
                      rw [List.length_append] at this
                      exact this
                    · have : i = id := by
                        rcases Nat.decEq i id with h' | h'
                        · exfalso; apply hi; unfold Mu.add; rw [if_neg h']
                        · exact h'
                      subst this
                      exact ⟨⟨_, List.mem_singleton.2 rfl⟩, .inr (by rw [hb']; simp)⟩
              · cases hf
            · -- a row of its own, of a fixed size
              rename_i id sz o n cap
              split at hf
              · rename_i e0 bs hh
                cases hs with
                | lsl _ _ _ _ _ _ b hb hcap =>
                  obtain ⟨c, h1, h2⟩ := hget_cells r hh hb
                  have hcl := h2.1
                  cases hfit : Nat.ble (n + el.n) cap with
                  | true =>
                    rw [hfit] at hf
                    simp only [cond_true, Option.some.injEq] at hf
                    subst hf
                    have hfit := Nat.le_of_ble_eq_true hfit
                    simp only [Bool.and_eq_true] at hc
                    obtain ⟨⟨⟨hsz, helok⟩, hone⟩, hle⟩ := hc
                    have hsz := Nat.eq_of_beq_eq_true hsz
                    subst hsz
                    have hle := Nat.le_of_ble_eq_true hle
                    obtain ⟨l, hel'⟩ := rdE_ok (P := P) r hx hel helok
                    have hnew := hel'.first el.n w (Nat.le_refl _) rfl
                    rw [List.take_of_length_le (by rw [hel'.sl]; exact Nat.le_refl _)] at hnew
                    have hvl : el.vs.length = l.length := by have := hel'.rv.1; simpa using this
                    have hsl := hel'.sl
                    have hst := run_storeCells_at P b (o + n * ei.size) e0 l 0 c w h1 (by omega) (ones_of hone hel'.rv)
                    simp only [Nat.add_zero] at hst
                    have hrun := run_append_fit (ty := ty) (a := ⟨b, o, none⟩) (w' := w.setRow b (c.toList.take (o + n * ei.size) ++ l ++ c.toList.drop (o + n * ei.size + l.length)).toArray) k.und k1.und hdx k2.info hel'.len hfit (by rw [k2.size]; exact hnew) (by rw [k2.size, ad_eq]; exact hst)
                    refine ⟨_, _, hrun, OutR.store r hh hb h1 ?_ (setL_rvA h2 (us := l) hvl (fun j hj => by
                      have := hel'.rv.2 j hj
                      have e2 : l.toArray.getD j Go.undef = l.getD j Go.undef := by simp
                      rwa [e2] at this) (by omega)) rfl (.lsl _ _ _ _ _ _ _ hb hfit)⟩
                    rw [List.size_toArray]
                    simp only [List.length_append, List.length_take, List.length_drop, Array.length_toList]
                    omega
                  | false =>
                    rw [hfit] at hf
                    simp only [cond_false, Option.some.injEq] at hf
                    have hnf : cap < n + el.n := by
                      rcases Nat.lt_or_ge cap (n + el.n) with h' | h'
                      · exact h'
                      · rw [Nat.ble_eq_true_of_le h'] at hfit; cases hfit
                    have hcc : (newG ei e el (Nat.beq sz ei.size && Nat.ble (o + n * ei.size) bs.length) ((bs.drop o).take (n * ei.size)) n nid [id]).c = true := hf ▸ hc
                    simp only [newG, Bool.and_eq_true] at hcc
                    obtain ⟨⟨⟨hsz, hle⟩, _⟩, _⟩ := hcc
                    have hsz := Nat.eq_of_beq_eq_true hsz
                    subst hsz
                    obtain ⟨lx', hx'⟩ := rdE_ok (P := P) r (x := .lsl id ei.size o n cap) (.lsl _ _ _ _ _ _ _ hb hcap) (sz := ei.size) (el := ⟨Nat.beq ei.size ei.size && Nat.ble (o + n * ei.size) bs.length, n, (bs.drop o).take (n * ei.size), [id]⟩) (by simp only [rdE, hh]) (by simp only [Bool.and_eq_true]; exact ⟨Nat.beq_refl _, hle⟩)
                    have hff := hx'.first n { w with drawn := w.drawn + 1 } (Nat.le_refl _) rfl
                    have hsl : lx'.length = n * ei.size := hx'.sl
                    rw [List.take_of_length_le (by rw [hsl]; exact Nat.le_refl _)] at hff
                    exact newg hf hsl hx'.rv (fun _ => hnf) hff
              · cases hf
            · -- a row of its own that grows
              rename_i id sz o n lo ex ver
              split at hf
              · rename_i ver' e0 s0 bs hh
                cases hs with
                | gsl _ _ _ _ _ _ _ _ b m cc a g1 g2 g3 g4 g5 g6 =>
                  obtain ⟨rfl, c, h1, h2, h3, h4⟩ := hget_grow r hh g1
                  cases hfit : Nat.ble (n + el.n) lo with
                  | true =>
                    rw [hfit] at hf
                    simp only [cond_true, Option.some.injEq] at hf
                    subst hf
                    have hfit := Nat.le_of_ble_eq_true hfit
                    simp only [Bool.and_eq_true] at hc
                    obtain ⟨⟨⟨⟨hsz, hver⟩, helok⟩, hone⟩, hle⟩ := hc
                    have hsz := Nat.eq_of_beq_eq_true hsz
                    have hver := Nat.eq_of_beq_eq_true hver
                    subst hsz; subst hver
                    have hle := Nat.le_of_ble_eq_true hle
                    obtain ⟨rfl, S, k3, k4⟩ := g6 rfl
                    obtain ⟨l, hel'⟩ := rdE_ok (P := P) r hx hel helok
                    have hnew := hel'.first el.n w (Nat.le_refl _) rfl
                    rw [List.take_of_length_le (by rw [hel'.sl]; exact Nat.le_refl _)] at hnew
                    have hvl : el.vs.length = l.length := by have := hel'.rv.1; simpa using this
                    have hsl := hel'.sl
                    have hst := run_storeCells_at P b (o + n * ei.size) e0 l 0 c w h1 (by omega) (ones_of hone hel'.rv)
                    simp only [Nat.add_zero] at hst
                    have hrun := run_append_fit (ty := ty) (a := ⟨b, o, none⟩) (sLen := n) (sCap := cc) (w' := w.setRow b (c.toList.take (o + n * ei.size) ++ l ++ c.toList.drop (o + n * ei.size + l.length)).toArray) k.und k1.und hdx k2.info hel'.len (by omega) (by rw [k2.size]; exact hnew) (by rw [k2.size, ad_eq]; exact hst)
                    have hcs : (c.toList.take (o + n * ei.size) ++ l ++ c.toList.drop (o + n * ei.size + l.length)).toArray.size = c.size := by
                      rw [List.size_toArray]
                      simp only [List.length_append, List.length_take, List.length_drop, Array.length_toList]
                      omega
                    have hA := setL_take h2 h4 (o := o + n * ei.size) (us := l) hvl (fun j hj => by
                      have := hel'.rv.2 j hj
                      have e2 : l.toArray.getD j Go.undef = l.getD j Go.undef := by simp
                      rwa [e2] at this) (by omega)
                    refine ⟨_, _, hrun, OutR.storeG r hh g1 (Nat.le_refl _) h1 hcs (by rw [setL_length (by omega), hcs]; exact h2) hA rfl ?_⟩
                    exact .gsl _ _ _ _ _ _ _ _ b ver cc _ (by unfold Mu.add; rw [if_pos rfl]) (Nat.le_refl _) (by omega) g4 g5 (fun _ => ⟨rfl, S, k3, k4⟩)
                  | false =>
                    rw [hfit] at hf
                    simp only [cond_false] at hf
                    have hnf : lo < n + el.n := by
                      rcases Nat.lt_or_ge lo (n + el.n) with h' | h'
                      · exact h'
                      · rw [Nat.ble_eq_true_of_le h'] at hfit; cases hfit
                    cases ex with
                    | true =>
                      simp only [cond_true, Option.some.injEq] at hf
                      have hcc : (newG ei e el (Nat.beq sz ei.size && Nat.beq ver m && Nat.ble (o + n * ei.size) bs.length) ((bs.drop o).take (n * ei.size)) n nid [id]).c = true := hf ▸ hc
                      simp only [newG, Bool.and_eq_true] at hcc
                      obtain ⟨⟨⟨⟨hsz, hver⟩, hle⟩, _⟩, _⟩ := hcc
                      have hsz := Nat.eq_of_beq_eq_true hsz
                      subst hsz
                      obtain ⟨lx', hx'⟩ := rdE_ok (P := P) r (x := .gsl id ei.size o n lo true ver) (.gsl _ _ _ _ _ _ _ _ b m cc a g1 g2 g3 g4 g5 g6) (sz := ei.size) (el := ⟨Nat.beq ei.size ei.size && Nat.beq ver m && Nat.ble (o + n * ei.size) bs.length, n, (bs.drop o).take (n * ei.size), [id]⟩) (by simp only [rdE, hh]) (by simp only [Bool.and_eq_true]; exact ⟨⟨Nat.beq_refl _, hver⟩, hle⟩)
                      have hff := hx'.first n { w with drawn := w.drawn + 1 } (Nat.le_refl _) rfl
                      have hsl : lx'.length = n * ei.size := hx'.sl
                      rw [List.take_of_length_le (by rw [hsl]; exact Nat.le_refl _)] at hff
                      exact newg hf hsl hx'.rv (fun _ => by have := g5 rfl; omega) hff
                    | false =>
                      simp only [cond_false, Option.some.injEq] at hf
                      have hc0 := hc
                      rw [← hf] at hc
                      simp only [Bool.and_eq_true] at hc
                      obtain ⟨⟨⟨⟨⟨⟨⟨hsz, hver⟩, he0⟩, ho⟩, hend⟩, helok⟩, hone⟩, hfits⟩ := hc
                      have hsz := Nat.eq_of_beq_eq_true hsz
                      have hver := Nat.eq_of_beq_eq_true hver
                      have he0 := Nat.eq_of_beq_eq_true he0
                      have ho := Nat.eq_of_beq_eq_true ho
                      have hend := Nat.eq_of_beq_eq_true hend
                      subst hsz; subst hver; subst he0; subst ho
                      obtain ⟨rfl, S, k3, k4⟩ := g6 rfl
                      obtain ⟨l, hel'⟩ := rdE_ok (P := P) r hx hel helok
                      have hvl : el.vs.length = l.length := by have := hel'.rv.1; simpa using this
                      have hsl := hel'.sl
                      have hSc : S = c.size := by rw [h3] at k3; simpa using k3.symm
                      have hidl : id < h.length := (r.dom id _ _ g1).1
                      by_cases hcc : n + el.n ≤ cc
                      · have hnew := hel'.first el.n w (Nat.le_refl _) rfl
                        rw [List.take_of_length_le (by rw [hel'.sl]; exact Nat.le_refl _)] at hnew
                        have hmul : (n + el.n) * ei.size ≤ cc * ei.size := Nat.mul_le_mul_right _ hcc
                        rw [Nat.add_mul] at hmul
                        have hst := run_storeCells_at P b (0 + n * ei.size) e0 l 0 c w h1 (by omega) (ones_of hone hel'.rv)
                        simp only [Nat.add_zero] at hst
                        have hrun := run_append_fit (ty := ty) (a := ⟨b, 0, none⟩) (sCap := cc) (w' := w.setRow b (c.toList.take (0 + n * ei.size) ++ l ++ c.toList.drop (0 + n * ei.size + l.length)).toArray) k.und k1.und hdx k2.info hel'.len hcc (by rw [k2.size]; exact hnew) (by rw [k2.size, ad_eq]; exact hst)
                        have hcs : (c.toList.take (0 + n * ei.size) ++ l ++ c.toList.drop (0 + n * ei.size + l.length)).toArray.size = c.size := by
                          rw [List.size_toArray]
                          simp only [List.length_append, List.length_take, List.length_drop, Array.length_toList]
                          omega
                        have hA := app_take h4 hel'.rv (by omega)
                        have hpe : bs.length = 0 + n * ei.size := by omega
                        rw [hpe] at hA
                        refine ⟨_, _, hrun, OutR.storeG r hh g1 (Nat.le_succ _) h1 hcs (by rw [hcs]; simp only [List.length_append]; omega) hA (by rw [← hf]) ?_⟩
                        rw [← hf]
                        exact .gsl _ _ _ _ _ _ _ _ b (ver + 1) cc _ (by unfold Mu.add; rw [if_pos rfl]) (Nat.le_refl _) hcc hcc (fun e => by cases e) (fun _ => ⟨rfl, S, k3, k4⟩)
                      · obtain ⟨lx', hx'⟩ := rdE_ok (P := P) r (x := .gsl id ei.size 0 n lo false ver) (.gsl _ _ _ _ _ _ _ _ b ver cc _ g1 g2 g3 g4 g5 g6) (sz := ei.size) (el := ⟨Nat.beq ei.size ei.size && Nat.beq ver ver && Nat.ble (0 + n * ei.size) bs.length, n, (bs.drop 0).take (n * ei.size), [id]⟩) (by simp only [rdE, hh]) (by simp only [Bool.and_eq_true]; exact ⟨⟨Nat.beq_refl _, Nat.beq_refl _⟩, Nat.ble_eq_true_of_le (by omega)⟩)
                        have hff := hx'.first n { w with drawn := w.drawn + 1 } (Nat.le_refl _) rfl
                        have hsl' : lx'.length = n * ei.size := hx'.sl
                        rw [List.take_of_length_le (by rw [hsl']; exact Nat.le_refl _)] at hff
                        have hrv := hx'.rv
                        simp only [List.drop_zero] at hrv
                        rw [List.take_of_length_le (by omega)] at hrv
                        exact grown hB r k.und k1.und hdx k2 hel' hsl' hrv (by omega) hfits hff hidl (.inr ⟨b, ver, g1, Nat.lt_succ_self _⟩) (by rw [← hf]) (by rw [← hf]) (.inr (by rw [g1]; simp))
              · cases hf
            · cases hf
        · cases hf
      · cases hf
    · cases hf
  · cases hf
end
end Go.Cx
