/- A calculus for calls of the program: canonical values and heaps, and what each operation, loop and call does to them; no condition on the program. -/
import Derived.Test.YtphpngpfllealaaCv6d
namespace Go.Cv
open Go.RowKit

section
variable {P : Program} {T : Nat → Option TI} (hT : TOk P T) {φ : Phi} {μ : Mu} {B : Nat} {h : Heap} {w : World} {K : V → Heap → Prop}
include hT

theorem sliceP_ok {t : Nat} {x : V} {lo hi : Option V} {cx : Value} {clo chi : Option Value} (r : Rel φ μ B h w) (hx : Rv φ μ x cx)
    (hlo : match lo, clo with | none, none => True | some a, some b => Rv φ μ a b | _, _ => False) (hhi : match hi, chi with | none, none => True | some a, some b => Rv φ μ a b | _, _ => False)
    (hk : sliceP T t x lo hi h K) : ∃ cv, (Instr.sliceAt t cx clo chi none).run P w = .ok cv w ∧ DoneH φ μ B w K cv w := by
  have bnd : ∀ (d : Nat) (b : Option V) (cb : Option Value) (q : Int), (match b, cb with | none, none => True | some a, some b => Rv φ μ a b | _, _ => False) → bndV d b = some q →
      (cb = none ∧ q = d) ∨ ∃ k, cb = some (.int k q) := fun d b cb q hb hq => by
    cases b with
    | none =>
      cases cb with
      | none => simp only [bndV, Option.some.injEq] at hq; exact .inl ⟨rfl, hq.symm⟩
      | some _ => exact hb.elim
    | some v =>
      cases cb with
      | none => exact hb.elim
      | some c =>
        simp only at hb
        cases hb <;> simp only [bndV, reduceCtorEq, Option.some.injEq] at hq
        subst hq
        exact .inr ⟨_, rfl⟩
  have bounds : ∀ (isS : Bool) (len cap : Nat) (l m : Int), bndV 0 lo = some l → bndV len hi = some m → len ≤ cap → 0 ≤ l → l ≤ m → m ≤ len → (Instr.sliceBounds isS len cap clo chi none).run P w = .ok (l.toNat, m.toNat, cap) w := fun isS len cap l m h1 h2 h3 h4 h5 h6 => by
    have hm : (0 : Int) ≤ m ∧ m ≤ (cap : Int) := ⟨by omega, by omega⟩
    have hl : (0 : Int) ≤ l ∧ l ≤ (m.toNat : Int) := ⟨h4, by omega⟩
    have a1 := bnd 0 lo clo l hlo (by simpa using h1)
    have a2 := bnd len hi chi m hhi h2
    unfold Instr.sliceBounds
    rcases a1 with ⟨rfl, e1⟩ | ⟨k1, rfl⟩ <;> rcases a2 with ⟨rfl, e2⟩ | ⟨k2, rfl⟩
    · subst e1; subst e2; simp
    · subst e1
      simp only [Instr.sliceBound, asIntOf, Sem.run_bind, Sem.run_pure, Result.andThen_ok, hm, and_self, if_true]
      rfl
    · subst e2
      have hl' : (0 : Int) ≤ l ∧ l ≤ (len : Int) := ⟨h4, h5⟩
      simp only [Instr.sliceBound, asIntOf, Sem.run_bind, Sem.run_pure, Result.andThen_ok, hl', and_self, if_true, Option.isSome_none, Int.toNat_natCast]
    · simp only [Instr.sliceBound, asIntOf, Sem.run_bind, Sem.run_pure, Result.andThen_ok, hm, hl, and_self, if_true, Option.isSome_none]
  unfold sliceP at hk
  split at hk
  · rename_i ti hti
    obtain ⟨i, d, z, k⟩ := hT t ti hti
    split at hk
    · rename_i s hk'
      have hd := kind_str (show kindOk .str d = true from hk' ▸ k.kind)
      subst hd
      split at hk
      · rename_i l m h1 h2
        obtain ⟨⟨b1, b2, b3⟩, hK⟩ := hk
        cases hx
        refine ⟨.string (s.extract l.toNat m.toNat), ?_, DoneH.here hK (.str _ _) r⟩
        simp only [Instr.sliceAt, Instr.slice, Sem.run_bind, run_underlying k.und, Result.andThen_ok, Option.isSome_none, Bool.false_eq_true, if_false, bounds false s.size s.size l m h1 h2 (Nat.le_refl _) b1 b2 b3, Sem.run_pure]
      · cases hk
    · rename_i e sz xs tk hk'
      have hd := kind_slice (show kindOk (.slice e) d = true from hk' ▸ k.kind)
      subst hd
      split at hk
      · rename_i ei l m hei h1 h2
        obtain ⟨i2, d2, z2, k2⟩ := hT e ei hei
        cases hsz : (sz == ei.size) with
        | false => rw [hsz] at hk; cases hk
        | true =>
          rw [hsz] at hk
          have hsz' : sz = i2.size := by rw [k2.size]; simpa using hsz
          obtain ⟨⟨b1, b2, b3⟩, hK⟩ := hk
          have b3' : l.toNat ≤ m.toNat := by omega
          have b4 : m.toNat ≤ xs.length := by omega
          cases hx with
          | psl0 =>
            simp at b4
            rename_i aa cap
            have e1 : l.toNat = 0 := by omega
            have e2 : m.toNat = 0 := by omega
            have := bounds true 0 cap l m h1 (by simpa using h2) (Nat.zero_le _) b1 b2 (by simpa using b3)
            rw [e1, e2] at this
            refine ⟨.slice (if cap = 0 then aa else aa.map (·.add (0 * i2.size))) 0 (cap - 0), ?_, DoneH.here hK ?_ r⟩
            · simp only [Instr.sliceAt, Instr.slice, Sem.run_bind, run_underlying k.und, Result.andThen_ok, this, run_sizeOf k2.info, Sem.run_pure]
            · simp only [List.drop_nil, List.take_nil]
              exact .psl0 _ _ _ _
          | psl _ _ _ _ b off cap c c0 c1 c2 c3 c4 =>
            have hrun := bounds true xs.length cap l m h1 h2 c0 b1 b2 b3
            by_cases hcl : cap = l.toNat
            · have e0 : m.toNat - l.toNat = 0 := by omega
              refine ⟨.slice (some ⟨b, off, none⟩) (m.toNat - l.toNat) (cap - l.toNat), ?_, DoneH.here hK ?_ r⟩
              · simp only [Instr.sliceAt, Instr.slice, Sem.run_bind, run_underlying k.und, Result.andThen_ok, hrun, run_sizeOf k2.info, Sem.run_pure]
                rw [if_pos hcl]
              · rw [e0, List.take_zero]
                have := Rv.psl (φ := φ) μ sz [] .any b off (cap - l.toNat) (fun _ _ => Go.undef) (by simp) (fun i hi => by simp at hi) (fun i j hi => by simp at hi) (fun i j hi => by simp at hi) trivial
                exact this
            · refine ⟨.slice (some ⟨b, off + l.toNat * sz, none⟩) (m.toNat - l.toNat) (cap - l.toNat), ?_, DoneH.here hK ?_ r⟩
              · simp only [Instr.sliceAt, Instr.slice, Sem.run_bind, run_underlying k.und, Result.andThen_ok, hrun, run_sizeOf k2.info, Sem.run_pure]
                rw [if_neg hcl, ← hsz']
                simp only [Option.map_some, Addr.add]
                split <;> simp_all
              · have hlen : ((xs.drop l.toNat).take (m.toNat - l.toNat)).length = m.toNat - l.toNat := by simp; omega
                have hget : ∀ i, i < m.toNat - l.toNat → ((xs.drop l.toNat).take (m.toNat - l.toNat)).getD i [] = xs.getD (l.toNat + i) [] := fun i hi => by
                  simp [hi, List.getElem?_drop]
                have := Rv.psl (φ := φ) μ sz ((xs.drop l.toNat).take (m.toNat - l.toNat)) .any b (off + l.toNat * sz) (cap - l.toNat) (fun i j => c (l.toNat + i) j) (by omega) (fun i hi => by rw [hget i (by omega)]; exact c1 _ (by omega))
                  (fun i j hi hj => by
                    have := c2 (l.toNat + i) j (by omega) hj
                    rw [Nat.add_mul, ← Nat.add_assoc] at this
                    exact this) (fun i j hi hj => by rw [hget i (by omega)]; exact c3 _ j (by omega) hj) trivial
                rwa [hlen] at this
      · cases hk
    · rename_i n e id q hk'
      have hd := kind_arr (show kindOk (.arr n e) d = true from hk' ▸ k.kind)
      subst hd
      split at hk
      · rename_i ei hei
        obtain ⟨i2, d2, z2, k2⟩ := hT e ei hei
        cases hx; rename_i b hb
        cases clo with
        | some _ => exact hlo.elim
        | none =>
          cases chi with
          | some _ => exact hhi.elim
          | none =>
            refine ⟨.slice (some ⟨b, q, none⟩) n n, ?_, DoneH.here hk (.lsl _ _ _ _ _ _ _ hb (Nat.le_refl _)) r⟩
            simp only [Instr.sliceAt, Sem.run_bind, run_underlying k.und, Result.andThen_ok, Instr.sureAddr, Sem.run_pure, Instr.sliceBounds, run_sizeOf k2.info]
            split
            · rfl
            · simp [Addr.add]
      · cases hk
    · cases hk
  · cases hk

theorem indexP_ok {t : Nat} {x i : V} {cx ci : Value} (r : Rel φ μ B h w) (hx : Rv φ μ x cx) (hi : Rv φ μ i ci) (hk : indexP T t x i h K) : ∃ cv, (Instr.index t cx ci).run P w = .ok cv w ∧ DoneH φ μ B w K cv w := by
  unfold indexP at hk
  split at hk
  · rename_i ti hti
    obtain ⟨inf, d, z, k⟩ := hT t ti hti
    split at hk
    · rename_i n e cs kk m hk'
      have hd := kind_arr (show kindOk (.arr n e) d = true from hk' ▸ k.kind)
      subst hd
      split at hk
      · rename_i ei hei
        obtain ⟨i2, d2, z2, k2⟩ := hT e ei hei
        obtain ⟨hb, hk⟩ := hk
        split at hk
        · rename_i v hv
          obtain ⟨c, rfl, hA⟩ := hx.agg_inv
          cases hi
          obtain ⟨cv, g1, g2⟩ := part_ok hT hA hv w
          refine ⟨cv, ?_, DoneH.here hk g2 r⟩
          simp only [Instr.index, asIntOf, Sem.run_bind, Sem.run_pure, run_underlying k.und, Result.andThen_ok]
          rw [if_pos hb]
          simp only [Sem.run_bind, run_sizeOf k2.info, Result.andThen_ok, k2.size, g1]
        · cases hk
      · cases hk
    · rename_i s kk m hk'
      have hd := kind_str (show kindOk .str d = true from hk' ▸ k.kind)
      subst hd
      obtain ⟨b, ⟨h1, h2⟩, hK⟩ := hk
      cases hx; cases hi
      refine ⟨.int .u8 b.toNat, ?_, DoneH.here hK (.int _ _ _) r⟩
      simp only [Instr.index, asIntOf, Sem.run_bind, Sem.run_pure, run_underlying k.und, Result.andThen_ok, h1, if_true, h2]
    · cases hk
  · cases hk

omit hT in
theorem elems_ok {sz : Nat} {x : V} {cx : Value} {ys : List (List V)} (hx : Rv φ μ x cx) (hy : elemsOf sz x = some ys) :
    Builtin.lenOf cx = pure ys.length ∧ ∃ l, Flat φ sz ys l ∧ ∀ (w' : World), Rel φ μ B h w' → (Builtin.firstCells sz ys.length cx).run P w' = .ok l.toArray w' := by
  unfold elemsOf at hy
  split at hy
  · rename_i s xs tk
    cases hs : (s == sz) with
    | false => rw [hs] at hy; cases hy
    | true =>
      rw [hs] at hy
      simp only [cond_true, Option.some.injEq] at hy
      subst hy
      have : s = sz := by simpa using hs
      subst this
      cases hx with
      | psl0 _ _ aa cap =>
        refine ⟨rfl, [], ⟨by simp, fun _ h => by simp at h, fun i hi => by simp at hi, fun i j hi => by simp at hi⟩, fun w' _ => ?_⟩
        cases aa with
        | none => rfl
        | some ad => simp [Builtin.firstCells, loadCells, loadCellsFrom]
      | psl _ _ _ _ b off cap c c0 c1 c2 c3 c4 =>
        obtain ⟨l, hl, hc⟩ := flat_of_psl c1 c2 c3
        exact ⟨rfl, l, hl, fun w' r' => run_first r' hl.len hc⟩
  · simp only [Option.some.injEq] at hy
    subst hy
    cases hx
    exact ⟨rfl, [], ⟨by simp, fun _ h => by simp at h, fun i hi => by simp at hi, fun i j hi => by simp at hi⟩, fun w' _ => rfl⟩
  · cases hy

theorem appendP_ok {t xt ty : Nat} {s x : V} {cs cx : Value} (hB : B ≤ w.heap.size) (r : Rel φ μ B h w) (hs : Rv φ μ s cs) (hx : Rv φ μ x cx) (hk : appendP T t xt s x h K) :
    ∃ cv w', (Builtin.append_ #[t, xt] ty #[cs, cx]).run P w = .ok cv w' ∧ Done φ μ B w K cv w' := by
  unfold appendP at hk
  split at hk
  · rename_i ti xi hti hxi
    obtain ⟨i, d, z, k⟩ := hT t ti hti
    obtain ⟨i1, d1, z1, k1⟩ := hT xt xi hxi
    split at hk
    · rename_i e xe hk1 hk2
      have hd := kind_slice (show kindOk (.slice e) d = true from hk1 ▸ k.kind)
      subst hd
      have hd := kind_slice (show kindOk (.slice xe) d1 = true from hk2 ▸ k1.kind)
      subst hd
      split at hk
      · rename_i ei hei
        obtain ⟨i2, d2, z2, k2⟩ := hT e ei hei
        have rd : Rel φ μ B h { w with drawn := w.drawn + 1 } := r.drawn _
        split at hk
        · rename_i hy
          obtain ⟨hlen, l, hl, hfirst⟩ := elems_ok (P := P) (B := B) (h := h) hx hy
          have hl0 : l = [] := List.length_eq_zero_iff.1 (by rw [hl.len]; simp)
          subst hl0
          have hf := hfirst w r
          rw [← k2.size] at hf
          split at hk
          · cases hs
            exact ⟨_, w, run_append_none k.und k1.und k2.info hlen (Nat.le_refl _) hf, Done.here hk (.nils _) r⟩
          · cases hs with
            | psl0 => exact ⟨_, w, run_append_none k.und k1.und k2.info hlen (Nat.zero_le _) hf, Done.here hk (.psl0 _ _ _ _) r⟩
            | psl _ _ _ _ b off cap c c0 c1 c2 c3 c4 => exact ⟨_, w, run_append_none k.und k1.und k2.info hlen c0 hf, Done.here hk (.psl _ _ _ _ _ _ _ c c0 c1 c2 c3 c4) r⟩
          · cases hk
        · rename_i y ys hy
          obtain ⟨hlen, l, hl, hfirst⟩ := elems_ok (P := P) (B := B) (h := h) hx hy
          have hf := hfirst _ rd
          rw [← k2.size] at hf
          have frd := Fr.drawn μ w (w.drawn + 1)
          -- a new row
          have grow : ∀ (xs : List (List V)) (lx : List Value) (base : Option Addr) (cap id : Nat) (h' : Heap), Flat φ ei.size xs lx → cap < xs.length + (y :: ys).length → 0 < ei.size → 0 < ei.bytes → (xs.length + (y :: ys).length) * (2 * ei.bytes) ≤ 281474976710656 →
              (Builtin.firstCells i2.size xs.length (.slice base xs.length cap)).run P { w with drawn := w.drawn + 1 } = .ok lx.toArray { w with drawn := w.drawn + 1 } →
              Became h h' id (.token ei.size (xs.length + (y :: ys).length)) → (μ id = none ∨ ∃ b0 m, μ id = some (b0, some m) ∧ m < xs.length + (y :: ys).length) →
              K (.psl ei.size (xs ++ y :: ys) (.own id)) h' → ∃ cv w', (Builtin.append_ #[t, xt] ty #[.slice base xs.length cap, cx]).run P w = .ok cv w' ∧ Done φ μ B w K cv w' := fun xs lx base cap id h' hX hcap hsz hbytes hfit hold hb hid hK => by
            obtain ⟨ncap, hge, hrun⟩ := run_append_grow (ty := ty) k.und k1.und k2.info k2.zero (by rw [k2.bytes]; exact hbytes) hlen hcap (by rw [k2.bytes]; exact hfit) (fun _ => hold) hf
            have hall := hX.append hl
            have hzc : (Builtin.zeroCells z2.cells (ncap - (xs.length + (y :: ys).length))).size = (ncap - (xs.length + (y :: ys).length)) * ei.size := by simp [Builtin.zeroCells, k2.zcells]
            have hcsz : (lx.toArray ++ l.toArray ++ Builtin.zeroCells z2.cells (ncap - (xs.length + (y :: ys).length))).size = ncap * ei.size := by
              rw [Array.size_append, hzc]
              simp only [Array.size_append, List.size_toArray, hX.len, hl.len]
              rw [← Nat.add_mul, ← Nat.add_mul]
              congr 1; omega
            obtain ⟨t1, t2, t3⟩ := rd.tokenNew (hB := hB) (l := lx ++ l) (c := lx.toArray ++ l.toArray ++ Builtin.zeroCells z2.cells (ncap - (xs.length + (y :: ys).length))) (e := e) hb hid (by rw [hall.len]; simp) (fun q hq => by
              rw [Array.getElem?_append_left (by simp at hq ⊢; omega), show lx.toArray ++ l.toArray = (lx ++ l).toArray from by simp, List.getElem?_toArray]) hall.one
            refine ⟨_, _, hrun, _, h', _, _, hK, ?_, t2, ?_, ?_⟩
            · have := (hall.mono t1).toRv (μ := μ.add id w.heap.size (some (xs.length + (y :: ys).length))) (b := w.heap.size) (off := 0) (cap := ncap) (tok := .own id) (by simp; simp at hge; omega) (fun q hq => by
                simp only [Phi.row]
                rw [if_pos ⟨trivial, by omega, by omega⟩]
                rw [List.getD_eq_getElem?_getD, Nat.zero_add, Nat.sub_zero, List.getElem?_eq_getElem hq]
                rfl) ⟨w.heap.size, _, by unfold Mu.add; rw [if_pos rfl], by simp, fun _ => ⟨rfl, rfl, hsz, by simp only [Phi.row, if_true]; rw [hcsz]⟩⟩
              rw [List.length_append] at this
              exact this
            · exact ⟨t3.phi, t3.mu, t3.fresh, t3.cells⟩
            · have hfa := Fr.alloc μ ({ w with drawn := w.drawn + 1 } : World) (.cells (lx.toArray ++ l.toArray ++ Builtin.zeroCells z2.cells (ncap - (xs.length + (y :: ys).length))) e)
              exact ⟨hfa.os, hfa.tape, hfa.output, hfa.size, hfa.block⟩
          split at hk
          · obtain ⟨⟨q1, q2, q3⟩, hK⟩ := hk
            cases hs
            refine grow [] [] none 0 h.length _ ⟨by simp, fun _ h => by simp at h, fun i hi => by simp at hi, fun i j hi => by simp at hi⟩ (by simp) q1 q2 (by simpa using q3) rfl (by simpa using became_push h _) (.inl ?_) (by simpa using hK)
            cases hq : μ h.length with
            | none => rfl
            | some p => have := (r.dom h.length p.1 p.2 hq).1; omega
          · rename_i sz xs
            obtain ⟨⟨q0, q1, q2, q3⟩, hK⟩ := hk
            subst q0
            cases hs with
            | psl _ _ _ _ b off cap c c0 c1 c2 c3 c4 =>
              obtain ⟨lx, hX, hc⟩ := flat_of_psl c1 c2 c3
              have c4' : cap = xs.length := c4
              refine grow xs lx (some ⟨b, off, none⟩) cap h.length _ hX (by rw [c4']; simp) q1 q2 q3 (by rw [k2.size]; exact run_first rd hX.len hc) (became_push h _) (.inl ?_) hK
              cases hq : μ h.length with
              | none => rfl
              | some p => have := (r.dom h.length p.1 p.2 hq).1; omega
          · rename_i sz xs id
            split at hk
            · rename_i s' n hh
              obtain ⟨⟨q0, qs, qn, q1, q2, q3⟩, hK⟩ := hk
              subst q0; subst qs; subst qn
              obtain ⟨b', x', hb', hx', c', e', g1, g2, g3⟩ := r.blk id _ hh
              subst hx'
              have hidl : id < h.length := (r.dom id _ _ hb').1
              cases hs with
              | psl _ _ _ _ b off cap c c0 c1 c2 c3 c4 =>
                obtain ⟨lx, hX, hc⟩ := flat_of_psl c1 c2 c3
                obtain ⟨bb, m, m1, m2, m3⟩ := c4
                rw [hb'] at m1
                simp only [Option.some.injEq, Prod.mk.injEq] at m1
                obtain ⟨rfl, rfl⟩ := m1
                obtain ⟨rfl, rfl, m4, m5⟩ := m3 rfl
                rw [g2] at m5
                simp only [Option.some.injEq] at m5
                by_cases hfit : xs.length + (y :: ys).length ≤ cap
                · -- in place
                  have hf0 := hfirst w r
                  rw [← k2.size] at hf0
                  have hmul : (xs.length + (y :: ys).length) * ei.size ≤ c'.size := by rw [m5]; exact Nat.mul_le_mul_right _ hfit
                  have hst := run_storeCells_at P b' (xs.length * ei.size) e' l 0 c' w g1 (by rw [hl.len, Nat.add_zero, ← Nat.add_mul]; exact hmul) hl.one
                  simp only [Nat.add_zero] at hst
                  have hadd : (⟨b', 0, none⟩ : Addr).add (xs.length * i2.size) = ⟨b', xs.length * ei.size, none⟩ := by
                    rw [k2.size]
                    simp only [Addr.add]
                    split
                    · rename_i h0; rw [h0]
                    · simp
                  obtain ⟨t1, t2, t3⟩ := r.tokenFit (n := xs.length + (y :: ys).length) hh hb' (by simp) g1 (by rw [hl.len, ← Nat.add_mul]) hmul hl.one
                  have hrun := run_append_fit (ty := ty) (w' := w.setRow b' (c'.toList.take (xs.length * ei.size) ++ l ++ c'.toList.drop (xs.length * ei.size + l.length)).toArray) k.und k1.und k2.info hlen hfit hf0 (by rw [hadd]; exact hst)
                  refine ⟨_, _, hrun, _, _, _, _, hK, ?_, t2, t3, Fr.setRow hb' _⟩
                  have hall := hX.append hl
                  have := (hall.mono t1).toRv (μ := μ.add id b' (some (xs.length + (y :: ys).length))) (b := b') (off := 0) (cap := cap) (tok := .own id) (by simpa using hfit) (fun q hq => by
                    rw [List.length_append] at hq
                    simp only [Phi.row]
                    by_cases hql : q < lx.length
                    · rw [if_neg (by rw [hX.len] at hql; omega)]
                      rw [hc q hql]
                      rw [List.getD_eq_getElem?_getD, List.getD_eq_getElem?_getD, List.getElem?_append_left hql]
                    · rw [if_pos ⟨trivial, by rw [hX.len] at hql; omega, by rw [← hX.len]; omega⟩]
                      rw [List.getD_eq_getElem?_getD, List.getElem?_append_right (by omega), List.getElem?_eq_getElem (by have := hX.len; omega), List.getElem?_eq_getElem (by omega)]
                      simp only [Option.getD_some, Option.some.injEq]
                      congr 1
                      have := hX.len; omega) ⟨b', _, by unfold Mu.add; rw [if_pos rfl], by simp, fun _ => ⟨rfl, rfl, q1, by simp only [Phi.row, if_true]; rw [m5]⟩⟩
                  rw [List.length_append] at this
                  exact this
                · exact grow xs lx (some ⟨b', 0, none⟩) cap id _ hX (by omega) q1 q2 q3 (by rw [k2.size]; exact run_first rd hX.len hc) (became_set h hidl _) (.inr ⟨b', xs.length, hb', by simp⟩) hK
            · cases hk
          · cases hk
        · cases hk
      · cases hk
    · cases hk
  · cases hk
end
end Go.Cv
