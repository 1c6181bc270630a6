/- A calculus for calls of the program: canonical values and heaps, and what each operation, loop and call does to them; no condition on the program. -/
import Derived.Test.YtifdekgmoekegaaDoorCx7d
namespace Go.Cx
open Go.RowKit

theorem flatten_rep {zs : List V} : ∀ (n : Nat), (List.replicate n zs).flatten.length = n * zs.length ∧ ∀ j, j < n * zs.length → (List.replicate n zs).flatten.getD j .undef = zs.getD (j % zs.length) .undef
  | 0 => ⟨by simp, fun j hj => by simp at hj⟩
  | n + 1 => by
    obtain ⟨h1, h2⟩ := flatten_rep (zs := zs) n
    rw [List.replicate_succ, List.flatten_cons]
    refine ⟨by rw [List.length_append, h1, Nat.add_mul]; omega, fun j hj => ?_⟩
    have hpos : 0 < zs.length := by
      rcases Nat.eq_zero_or_pos zs.length with h0 | h0
      · rw [h0] at hj; simp at hj
      · exact h0
    rcases Nat.lt_or_ge j zs.length with h | h
    · rw [List.getD_eq_getElem?_getD, List.getElem?_append_left h, ← List.getD_eq_getElem?_getD, Nat.mod_eq_of_lt h]
    · rw [List.getD_eq_getElem?_getD, List.getElem?_append_right h, ← List.getD_eq_getElem?_getD, h2 _ (by rw [Nat.add_mul] at hj; omega)]
      rw [← Nat.mod_eq_sub_mod h]

theorem zeros_rvA {φ : Phi} {μ : Mu} {zs : List V} {z : Array Value} {n : Nat} (h : RvA φ μ zs z) : RvA φ μ (zerosV zs n) (Builtin.zeroCells z n) := by
  obtain ⟨h1, h2⟩ := flatten_rep (zs := zs) n
  refine ⟨by simp [zerosV, h1, Builtin.zeroCells, h.1], fun j hj => ?_⟩
  have hj' : j < n * zs.length := by rw [← h1]; exact hj
  have hpos : 0 < zs.length := by
    rcases Nat.eq_zero_or_pos zs.length with h0 | h0
    · rw [h0] at hj'; simp at hj'
    · exact h0
  have hm : j % zs.length < zs.length := Nat.mod_lt _ hpos
  have e1 : (zerosV zs n).getD j .undef = zs.getD (j % zs.length) .undef := h2 j hj'
  have e2 : (Builtin.zeroCells z n).getD j Go.undef = z.getD (j % zs.length) Go.undef := by
    have hz : j < n * z.size := by rw [← h.1]; exact hj'
    have hmz : j % z.size < z.size := by rw [← h.1]; exact hm
    simp [Builtin.zeroCells, Array.getD_eq_getD_getElem?, hz, h.1, hmz]
  rw [e1, e2]
  exact h.2 _ hm

theorem take_rvA {φ : Phi} {μ : Mu} {vs : List V} {l : List Value} (h : RvA φ μ vs l.toArray) (n : Nat) : RvA φ μ (vs.take n) (l.take n).toArray := by
  have := h.extract 0 n
  rw [Nat.zero_add, List.drop_zero] at this
  have e : l.toArray.extract 0 n = (l.take n).toArray := by apply Array.ext'; simp
  rwa [e] at this

section
variable {P : Program} {T : Nat → Option TI} (hT : TOk P T) {φ : Phi} {μ : Mu} {B : Nat} {h : Heap} {w : World} (hB : B ≤ w.heap.size) (r : Rel φ μ B h w) {nid : Nat} {out : Out} (hc : out.c = true) (hnid : nid + out.nw ≤ h.length) (hfree : ∀ q, q < out.nw → μ (nid + q) = none)
include hT hB r hc hnid hfree

theorem makeSliceF_ok {t : Nat} {l c : V} {cl cc : Value} (hl : Rv φ μ l cl) (hcc : Rv φ μ c cc) (hf : makeSliceF T t l c nid = some out) : ∃ cv w', (Instr.makeSlice t cl cc).run P w = .ok cv w' ∧ OutR φ μ B h w nid out cv w' := by
  unfold makeSliceF at hf
  split at hf
  · rename_i ti k1 l k2' c hti
    obtain ⟨i, d, z, k⟩ := hT t ti hti
    split at hf
    · rename_i e hk1
      have hd := kind_slice (show kindOk (.slice e) d = true from hk1 ▸ k.kind)
      subst hd
      split at hf
      · rename_i ei hei
        obtain ⟨i2, d2, z2, k2⟩ := hT e ei hei
        split at hf
        · rename_i zs hzs
          simp only [Option.some.injEq] at hf
          subst hf
          simp only [Bool.and_eq_true, decide_eq_true_eq] at hc
          obtain ⟨⟨⟨⟨b1, b2⟩, b3⟩, b4⟩, b5⟩ := hc
          have b5 := Nat.eq_of_beq_eq_true b5
          cases hl; cases hcc
          have hzA := cellsOf_ok (k2.zrv φ μ) hzs
          have wl : IntKind.i64.wrap l = l := by rw [IntKind.wrap_i64]; omega
          have wc : IntKind.i64.wrap c = c := by rw [IntKind.wrap_i64]; omega
          have hfr0 := hfree 0 (by simp)
          rw [Nat.add_zero] at hfr0
          have hcells : ∃ cells : Array Value, RvA φ μ (zerosV zs c.toNat) cells ∧ (Instr.makeSlice t (.int k1 l) (.int k2' c)).run P w = .ok (.slice (some ⟨w.heap.size, 0, none⟩) l.toNat c.toNat) (w.alloc (.cells cells e)) := by
            have hno : (decide (c < 0) || decide ((i2.bytes : Int) * c > 2 ^ 48) || decide (l < 0) || decide (l > c)) = false := by
              rw [k2.bytes]
              simp only [Bool.or_eq_false_iff, decide_eq_false_iff_not]
              omega
            by_cases h0 : c.toNat * i2.size = 0
            · refine ⟨#[], ?_, ?_⟩
              · refine ⟨?_, fun j hj => ?_⟩
                · rw [zerosV, (flatten_rep c.toNat).1, b5, ← k2.size, h0]; rfl
                · rw [zerosV, (flatten_rep c.toNat).1, b5, ← k2.size, h0] at hj; omega
              · simp only [Instr.makeSlice, Sem.run_bind, run_underlying k.und, Result.andThen_ok, asInt, asIntOf, Sem.run_pure, typeInfo, run_program, k2.info, wl, wc, hno, Bool.false_eq_true, if_false, run_askRoom, sizeOf, h0, if_true, newRow, run_newObj']
                simp
                have hz : (Array.range 0).map (fun _ => (default : Value)) = #[] := by apply Array.ext <;> simp
                rw [hz]
            · refine ⟨Builtin.zeroCells z2.cells c.toNat, zeros_rvA hzA, ?_⟩
              simp only [Instr.makeSlice, Sem.run_bind, run_underlying k.und, Result.andThen_ok, asInt, asIntOf, Sem.run_pure, typeInfo, run_program, k2.info, wl, wc, hno, Bool.false_eq_true, if_false, run_askRoom, sizeOf, h0, run_zeroValue k2.info k2.zero, newRow, run_newObj']
              rw [show Builtin.zeroCells z2.cells c.toNat = (Array.range (c.toNat * i2.size)).map (fun x => z2.cells[x % z2.cells.size]!) by simp only [Builtin.zeroCells, k2.zcells, k2.size]]
          obtain ⟨cells, g1, g2⟩ := hcells
          exact ⟨_, _, g2, OutR.cells r hB (by simp only at hnid; omega) hfr0 rfl rfl g1 (.lsl _ _ _ _ _ _ _ (by unfold Mu.add; rw [if_pos rfl]) (by omega))⟩
        · cases hf
      · cases hf
    · cases hf
  · cases hf

omit hT hB hc hnid hfree in
/-- Cells are written from some place on. -/
theorem wrBlk_ok {b b' : Blk} {i o bb : Nat} {x : Option Nat} {vs : List V} {us : List Value} {ot : Out} (hi : hget h i = some b) (hb : μ i = some (bb, x)) (hw : wrBlk b o vs = some b') (hr : RvA φ μ vs us.toArray) {cv : Value} (hv : Rv φ μ ot.v cv) (hwr : ot.wr = [(i, b')]) :
    ∃ w', (storeCells ⟨bb, o, none⟩ us 0).run P w = .ok () w' ∧ OutR φ μ B h w nid ot cv w' := by
  have hl : vs.length = us.length := by simpa using hr.1
  have hval : ∀ j, j < vs.length → Rv φ μ (vs.getD j .undef) (us.getD j Go.undef) := fun j hj => by
    have := hr.2 j hj
    have e2 : us.toArray.getD j Go.undef = us.getD j Go.undef := by simp
    rwa [e2] at this
  unfold wrBlk at hw
  split at hw
  · rename_i e cs
    replace hw := cond_some hw
    obtain ⟨hcnd, hw⟩ := hw
    simp only [Option.some.injEq] at hw
    subst hw
    simp only [Bool.and_eq_true] at hcnd
    obtain ⟨hone, hle⟩ := hcnd
    have hle := Nat.le_of_ble_eq_true hle
    obtain ⟨b2, x2, hb2, hx2, _⟩ := r.blk i _ hi
    rw [hb] at hb2
    simp only [Option.some.injEq, Prod.mk.injEq] at hb2
    obtain ⟨rfl, rfl⟩ := hb2
    subst hx2
    obtain ⟨c, h1, h2⟩ := hget_cells r hi hb
    have hcl := h2.1
    have hst := run_storeCells_at P bb o e us 0 c w h1 (by omega) (ones_of hone hr)
    simp only [Nat.add_zero] at hst
    refine ⟨_, hst, OutR.store r hi hb h1 ?_ (setL_rvA h2 (us := us) hl hval hle) hwr hv⟩
    rw [List.size_toArray]
    simp only [List.length_append, List.length_take, List.length_drop, Array.length_toList]
    omega
  · rename_i ver e sz cs
    replace hw := cond_some hw
    obtain ⟨hcnd, hw⟩ := hw
    simp only [Option.some.injEq] at hw
    subst hw
    simp only [Bool.and_eq_true] at hcnd
    obtain ⟨hone, hle⟩ := hcnd
    have hle := Nat.le_of_ble_eq_true hle
    obtain ⟨b2, hb2⟩ := grow_num r hi
    rw [hb] at hb2
    simp only [Option.some.injEq, Prod.mk.injEq] at hb2
    obtain ⟨rfl, rfl⟩ := hb2
    obtain ⟨_, c, h1, h2, h3, h4⟩ := hget_grow r hi hb
    have hst := run_storeCells_at P bb o e us 0 c w h1 (by omega) (ones_of hone hr)
    simp only [Nat.add_zero] at hst
    have hcs : (c.toList.take o ++ us ++ c.toList.drop (o + us.length)).toArray.size = c.size := by
      rw [List.size_toArray]
      simp only [List.length_append, List.length_take, List.length_drop, Array.length_toList]
      omega
    have hA := setL_take h2 h4 (o := o) (us := us) hl hval hle
    have hmu : μ.add i bb (some ver) = μ := by
      funext j
      unfold Mu.add
      split
      · rename_i hj; rw [hj, hb]
      · rfl
    exact ⟨_, hst, OutR.storeG r hi hb (Nat.le_refl _) h1 hcs (by rw [setL_length hle, hcs]; exact h2) hA hwr (by rw [hmu]; exact hv)⟩
  · cases hw

omit hB hnid hfree in
theorem copyF_ok {t ty : Nat} {ts : Array Nat} (hts : ts[0]? = some t) {d x : V} {cd cx : Value} (hd : Rv φ μ d cd) (hx : Rv φ μ x cx) (hf : copyF T t d x (hget h) = some out) : ∃ cv w', (Builtin.copy_ ts ty #[cd, cx]).run P w = .ok cv w' ∧ OutR φ μ B h w nid out cv w' := by
  unfold copyF at hf
  split at hf
  · rename_i ti hti
    obtain ⟨i, dd, z, k⟩ := hT t ti hti
    split at hf
    · rename_i e hk1
      have hd' := kind_slice (show kindOk (.slice e) dd = true from hk1 ▸ k.kind)
      subst hd'
      split at hf
      · rename_i ei hei
        obtain ⟨i2, d2, z2, k2⟩ := hT e ei hei
        split at hf
        · rename_i el hel
          have run : ∀ {base : Option Addr} {n cap : Nat} {w' : World} {l : List Value}, cd = .slice base n cap → ElR P φ μ w ei.size el cx l → (match base with | some a => (storeCells a (l.take (Nat.min el.n n * ei.size)) 0).run P w = .ok () w' | none => w' = w) →
              (Builtin.copy_ ts ty #[cd, cx]).run P w = .ok (goInt (Nat.min el.n n)) w' := fun {base n cap w' l} hcd hl hst => by
            have hfirst := hl.first (Nat.min el.n n) w (Nat.min_le_left _ _) rfl
            subst hcd
            unfold Builtin.copy_
            cases base with
            | none =>
              subst hst
              simp only [hts, Array.getElem?_eq_getElem, List.size_toArray, List.length_cons, List.length_nil, Nat.zero_lt_succ, Nat.lt_add_one, List.getElem_toArray, List.getElem_cons_zero, List.getElem_cons_succ, Sem.run_bind, run_underlying k.und, Result.andThen_ok, Sem.run_pure, hl.len, run_sizeOf k2.info, k2.size, hfirst]
            | some a =>
              simp only [hts, Array.getElem?_eq_getElem, List.size_toArray, List.length_cons, List.length_nil, Nat.zero_lt_succ, Nat.lt_add_one, List.getElem_toArray, List.getElem_cons_zero, List.getElem_cons_succ, Sem.run_bind, run_underlying k.und, Result.andThen_ok, Sem.run_pure, hl.len, run_sizeOf k2.info, k2.size, hfirst, List.toList_toArray, hst]
          split at hf
          · simp only [Option.some.injEq] at hf
            subst hf
            cases hd
            obtain ⟨l, hl⟩ := rdE_ok (P := P) r hx hel hc
            refine ⟨_, w, run rfl hl rfl, OutR.same r ?_ rfl⟩
            simp only [Nat.min_def]
            have : (if el.n ≤ 0 then el.n else 0) = 0 := by split <;> omega
            rw [this]
            exact .int _ _ _
          · rename_i id sz o n cap
            split at hf
            · rename_i b hh
              split at hf
              · rename_i b' hw
                simp only [Option.some.injEq] at hf
                subst hf
                simp only [Bool.and_eq_true] at hc
                obtain ⟨hok, hsz⟩ := hc
                obtain ⟨l, hl⟩ := rdE_ok (P := P) r hx hel hok
                cases hd with
                | lsl _ _ _ _ _ _ bb hb hcap =>
                  obtain ⟨w', g1, g2⟩ := wrBlk_ok (P := P) (nid := nid) (cv := goInt (Nat.min el.n n)) (ot := ⟨el.ok && Nat.beq sz ei.size, .int .i64 (Nat.min el.n n), [(id, b')], id :: el.acc, 0⟩) r hh hb hw (take_rvA hl.rv _) (.int _ _ _) rfl
                  exact ⟨_, w', run rfl hl g1, g2⟩
              · cases hf
            · cases hf
          · rename_i id sz o n lo ex ver
            split at hf
            · rename_i ver' e0 s0 cs hh
              split at hf
              · rename_i b' hw
                simp only [Option.some.injEq] at hf
                subst hf
                simp only [Bool.and_eq_true] at hc
                obtain ⟨⟨hok, hsz⟩, hver⟩ := hc
                have hver := Nat.eq_of_beq_eq_true hver
                subst hver
                obtain ⟨l, hl⟩ := rdE_ok (P := P) r hx hel hok
                cases hd with
                | gsl _ _ _ _ _ _ _ _ bb m cc a g1 g2 g3 g4 g5 g6 =>
                  obtain ⟨rfl, _⟩ := hget_grow r hh g1
                  obtain ⟨rfl, _⟩ := g6 rfl
                  obtain ⟨w', g1, g2⟩ := wrBlk_ok (P := P) (nid := nid) (cv := goInt (Nat.min el.n n)) (ot := ⟨el.ok && Nat.beq sz ei.size && Nat.beq _ _, .int .i64 (Nat.min el.n n), [(id, b')], id :: el.acc, 0⟩) r hh g1 hw (take_rvA hl.rv _) (.int _ _ _) rfl
                  exact ⟨_, w', run rfl hl g1, g2⟩
              · cases hf
            · cases hf
          · cases hf
        · cases hf
      · cases hf
    · cases hf
  · cases hf

omit hB hnid hfree in
theorem clearF_ok {t ty : Nat} {ts : Array Nat} (hts : ts[0]? = some t) {d : V} {cd : Value} (hd : Rv φ μ d cd) (hf : clearF T t d (hget h) = some out) : ∃ cv w', (Builtin.clear_ ts ty #[cd]).run P w = .ok cv w' ∧ OutR φ μ B h w nid out cv w' := by
  unfold clearF at hf
  split at hf
  · rename_i ti hti
    obtain ⟨i, dd, z, k⟩ := hT t ti hti
    split at hf
    · rename_i e hk1
      have hd' := kind_slice (show kindOk (.slice e) dd = true from hk1 ▸ k.kind)
      subst hd'
      split at hf
      · rename_i ei hei
        obtain ⟨i2, d2, z2, k2⟩ := hT e ei hei
        split at hf
        · rename_i zs id sz o n cap hzs
          have hzA := cellsOf_ok (k2.zrv φ μ) hzs
          split at hf
          · rename_i b hh
            split at hf
            · rename_i b' hw
              simp only [Option.some.injEq] at hf
              subst hf
              cases hd with
              | lsl _ _ _ _ _ _ bb hb hcap =>
                have hzr : RvA φ μ (zerosV zs n) (Builtin.zeroCells z2.cells n).toList.toArray := by rw [Array.toArray_toList]; exact zeros_rvA hzA
                obtain ⟨w', g1, g2⟩ := wrBlk_ok (P := P) (nid := nid) (cv := .tuple #[]) (ot := ⟨Nat.beq sz ei.size && Nat.beq zs.length ei.size, .tup [], [(id, b')], [id], 0⟩) r hh hb hw hzr (.tup _ _ _ rfl (fun j hj => by simp at hj)) rfl
                refine ⟨.tuple #[], w', ?_, g2⟩
                have e1 : (Builtin.clear_ ts ty #[.slice (some ⟨bb, o, none⟩) n cap]) = (do
                    match ← underlying t, Value.slice (some ⟨bb, o, none⟩) n cap with
                    | _, .map none | _, .slice none _ _ | _, .slice _ 0 _ => pure ()
                    | _, .map (some r) =>
                      let .map _ clock ← getObj r | stuck "clear: map expected"
                      setObj r (.map #[] clock)
                    | .slice elem, .slice (some a) n _ =>
                      storeCells a (Builtin.zeroCells (← zeroValue elem).cells n).toList
                    | _, _ => stuck "clear: map or slice expected"
                    pure (.tuple #[])) := by
                  unfold Builtin.clear_
                  simp only [hts, Array.getElem?_eq_getElem, List.size_toArray, List.length_cons, List.length_nil, Nat.zero_lt_succ, List.getElem_toArray, List.getElem_cons_zero]
                  rfl
                rw [e1]
                cases n with
                | zero =>
                  have hz : (Builtin.zeroCells z2.cells 0).toList = [] := by simp [Builtin.zeroCells]
                  rw [hz] at g1
                  have hw' : w' = w := by
                    simp only [storeCells, Sem.run_pure, Result.ok.injEq] at g1
                    exact g1.2.symm
                  subst hw'
                  simp only [Sem.run_bind, run_underlying k.und, Result.andThen_ok, Sem.run_pure]
                | succ n =>
                  simp only [Sem.run_bind, run_underlying k.und, Result.andThen_ok, run_zeroValue k2.info k2.zero, g1, Sem.run_pure]
            · cases hf
          · cases hf
        · cases hf
      · cases hf
    · cases hf
  · cases hf

theorem buildSliceF_ok {md : Bool} {t n : Nat} {ps : List (Nat × V)} {qs : Array (Nat × Value)} (hl : ps.length = qs.toList.length) (hr : ∀ (j : Nat) (p : Nat × V) (q : Nat × Value), ps[j]? = some p → qs.toList[j]? = some q → p.1 = q.1 ∧ Rv φ μ p.2 q.2)
    (hf : buildSliceF T md t n ps nid = some out) : ∃ cv w', (Instr.buildSlice t n qs).run P w = .ok cv w' ∧ OutR φ μ B h w nid out cv w' := by
  unfold buildSliceF at hf
  split at hf
  · rename_i ti hti
    obtain ⟨i, d, z, k⟩ := hT t ti hti
    split at hf
    · rename_i e hk1
      have hd := kind_slice (show kindOk (.slice e) d = true from hk1 ▸ k.kind)
      subst hd
      split at hf
      · rename_i ei hei
        obtain ⟨i2, d2, z2, k2⟩ := hT e ei hei
        split at hf
        · rename_i flat hflat
          have hle : Nat.ble (n * ei.size) 16777216 = true := by
            cases hcc : (!md && flat.all fun v => v.free1 && v.one) with
            | true => rw [hcc] at hf; simp only [cond_true, Option.some.injEq] at hf; subst hf; exact hc
            | false => rw [hcc] at hf; simp only [cond_false, Option.some.injEq] at hf; subst hf; exact hc
          have hle := Nat.le_of_ble_eq_true hle
          have hstart : ∀ c : Array Value, c.size = n * ei.size → RvA φ μ (flatOf (n * ei.size)) c := fun c hcs => ⟨by simp [flatOf, hcs], fun j hj => by
            have : (flatOf (n * ei.size)).getD j V.undef = .undef := by
              simp only [flatOf, List.getD_eq_getElem?_getD, List.getElem?_replicate]
              split <;> rfl
            rw [this]; exact .undef _ _⟩
          have hrun : ∃ cells : Array Value, (Instr.buildSlice t n qs).run P w = .ok (.slice (some ⟨w.heap.size, 0, none⟩) n n) (w.alloc (.cells cells e)) ∧ RvA φ μ flat cells := by
            have hno : ¬ (n * i2.size > 2 ^ 24) := by rw [k2.size]; omega
            by_cases h0 : n * i2.size = 0
            · obtain ⟨cells, h1, h2⟩ := fillV_ok (φ := φ) (μ := μ) (fun i => some (i * ei.size, ei.size)) ps qs.toList _ ((Array.range (n * i2.size)).map fun j => (#[] : Array Value)[j % (#[] : Array Value).size]!) flat (hstart _ (by simp [k2.size])) hl hr hflat
              refine ⟨cells, ?_, h2⟩
              rw [← k2.size] at h1
              simp only [Instr.buildSlice, Sem.run_bind, run_underlying k.und, Result.andThen_ok, run_sizeOf k2.info, hno, if_false]
              rw [if_pos h0]
              simp only [Sem.run_bind, Sem.run_pure, Result.andThen_ok]
              simp only [h1, newRow, Sem.run_bind, run_newObj', Result.andThen_ok, Sem.run_pure]
            · obtain ⟨cells, h1, h2⟩ := fillV_ok (φ := φ) (μ := μ) (fun i => some (i * ei.size, ei.size)) ps qs.toList _ ((Array.range (n * i2.size)).map fun j => z2.cells[j % z2.cells.size]!) flat (hstart _ (by simp [k2.size])) hl hr hflat
              refine ⟨cells, ?_, h2⟩
              rw [← k2.size] at h1
              simp only [Instr.buildSlice, Sem.run_bind, run_underlying k.und, Result.andThen_ok, run_sizeOf k2.info, hno, if_false, h0, run_zeroValue k2.info k2.zero, Sem.run_pure, h1, newRow, run_newObj']
          obtain ⟨cells, hrun, hA⟩ := hrun
          have hfl : flat.length = n * ei.size := by
            have := fillV_length _ _ _ _ hflat
            simpa [flatOf] using this
          cases hcc : (!md && flat.all fun v => v.free1 && v.one) with
          | true =>
            rw [hcc] at hf
            simp only [cond_true, Option.some.injEq] at hf
            subst hf
            simp only [Bool.and_eq_true] at hcc
            have hfree := hcc.2
            rw [List.all_eq_true] at hfree
            have hone : ∀ v ∈ cells, v.oneCell' = true := fun v hv => by
              obtain ⟨j, hj, hE⟩ := Array.getElem_of_mem hv
              have hj' : j < flat.length := by rw [hA.1]; exact hj
              have h5 := hA.2 j hj'
              have e1 : cells.getD j Go.undef = v := by rw [← hE]; simp [hj]
              have e2 : flat.getD j .undef = flat[j] := by simp [hj']
              rw [e1, e2] at h5
              have h6 := hfree flat[j] (List.getElem_mem hj')
              simp only [Bool.and_eq_true] at h6
              exact (one_cells h5 h6.2).2
            obtain ⟨hle', hr'⟩ := r.allocPhi cells e hone
            have hcsz := hA.1
            have hrv : Rv (φ.add w.heap.size cells hone) μ (.psl ei.size (chunks ei.size flat n) .exact) (.slice (some ⟨w.heap.size, 0, none⟩) (chunks ei.size flat n).length n) := by
              refine .psl _ _ _ _ _ _ _ (fun i j => cells.getD (i * ei.size + j) Go.undef) (by rw [chunks_length]; exact Nat.le_refl _) (fun i hi => ?_) (fun i j hi hj => ?_) (fun i j hi hj => ?_) (by show n = _; rw [chunks_length])
              · rw [chunks_length] at hi
                rw [chunks_get _ _ _ _ hi]
                have : (i + 1) * ei.size ≤ n * ei.size := Nat.mul_le_mul_right _ (by omega)
                rw [Nat.add_mul] at this
                simp; omega
              · rw [chunks_length] at hi
                have : (i + 1) * ei.size ≤ n * ei.size := Nat.mul_le_mul_right _ (by omega)
                rw [Nat.add_mul] at this
                have hlt : i * ei.size + j < cells.size := by omega
                simp only [Phi.add, if_true, Nat.zero_add]
                simp [hlt]
              · rw [chunks_length] at hi
                rw [chunks_get _ _ _ _ hi]
                have : (i + 1) * ei.size ≤ n * ei.size := Nat.mul_le_mul_right _ (by omega)
                rw [Nat.add_mul] at this
                have hlt : i * ei.size + j < flat.length := by omega
                have h5 := hA.2 _ hlt
                have e2 : ((flat.drop (i * ei.size)).take ei.size).getD j .undef = flat.getD (i * ei.size + j) .undef := by simp [hj, List.getElem?_drop]
                rw [e2]
                have h6 := hfree flat[i * ei.size + j] (List.getElem_mem hlt)
                simp only [Bool.and_eq_true] at h6
                have e3 : flat.getD (i * ei.size + j) .undef = flat[i * ei.size + j] := by simp [hlt]
                rw [e3] at h5 ⊢
                exact (free1_rv h5 h6.1 mu0).mono hle' (Mu.le_refl _)
            rw [chunks_length] at hrv
            exact ⟨_, _, hrun, _, μ, hrv, hr', Ext.phiAdd φ μ w cells hone hle', Fr.alloc _ _ _, fun i hi => absurd rfl hi⟩
          | false =>
            rw [hcc] at hf
            simp only [cond_false, Option.some.injEq] at hf
            subst hf
            have hfr0 := hfree 0 (by simp)
            rw [Nat.add_zero] at hfr0
            exact ⟨_, _, hrun, OutR.cells r hB (by simp only at hnid; omega) hfr0 rfl rfl hA (.lsl _ _ _ _ _ _ _ (by unfold Mu.add; rw [if_pos rfl]) (Nat.le_refl _))⟩
        · cases hf
      · cases hf
    · cases hf
  · cases hf
end
end Go.Cx
