/- A calculus for calls of the program: canonical values and heaps, and what each operation, loop and call does to them; no condition on the program. -/
import Derived.Test.YtifdekgmoekegaaDoorCx6
namespace Go.Cx
open Go.RowKit

theorem nbeq_t {a b : Nat} (h : a = b) : Nat.beq a b = true := by subst h; exact Nat.beq_refl a
theorem nbeq_f {a b : Nat} (h : a ≠ b) : Nat.beq a b = false := by
  cases hq : Nat.beq a b with
  | false => rfl
  | true => exact absurd (Nat.eq_of_beq_eq_true hq) h
theorem nblt_f {a b : Nat} (h : Nat.blt a b = false) : ¬ a < b := fun hl => by
  have : Nat.blt a b = true := by rw [Nat.blt_eq]; exact hl
  rw [h] at this; cases this
theorem nblt_t {a b : Nat} (h : Nat.blt a b = true) : a < b := by simpa [Nat.blt_eq] using h

section
variable {P : Program} {T : Nat → Option TI} (hT : TOk P T) {φ : Phi} {μ : Mu} (w : World)
include hT

theorem sliceO_ok {t : Nat} {x : V} {lo hi mx : Option V} {cx : Value} {clo chi cmx : Option Value} {b : Bool} {v : V} (hx : Rv φ μ x cx)
    (hlo : match lo, clo with | none, none => True | some a, some b => Rv φ μ a b | _, _ => False) (hhi : match hi, chi with | none, none => True | some a, some b => Rv φ μ a b | _, _ => False) (hmx : match mx, cmx with | none, none => True | some a, some b => Rv φ μ a b | _, _ => False)
    (h : sliceO T t x lo hi mx = some (b, v)) (hb : b = true) : ∃ cv, (Instr.sliceAt t cx clo chi cmx).run P w = .ok cv w ∧ Rv φ μ v cv := by
  have mxq : ∀ (cap : Nat) (q : Int), bndV cap mx = some q → (mx.isSome && !hi.isSome) = false → (mx = none ∧ q = cap) ∨ (hi.isSome = true ∧ ∃ k, mx = some (.int k q)) := fun cap q hq hs => by
    cases mx with
    | none => simp only [bndV, Option.some.injEq] at hq; exact .inl ⟨rfl, hq.symm⟩
    | some m =>
      simp only [Option.isSome_some, Bool.true_and, Bool.not_eq_false'] at hs
      cases m <;> simp only [bndV, reduceCtorEq, Option.some.injEq] at hq
      subst hq
      exact .inr ⟨hs, _, rfl⟩
  unfold sliceO at h
  split at h
  · rename_i ti hti
    obtain ⟨i, d, z, k⟩ := hT t ti hti
    split at h
    · -- strings
      rename_i s hk
      have hd := kind_str (show kindOk .str d = true from hk ▸ k.kind)
      subst hd
      split at h
      · rename_i l m h1 h2
        simp only [Option.some.injEq, Prod.mk.injEq] at h
        obtain ⟨e, rfl⟩ := h
        rw [← e] at hb
        simp only [Bool.and_eq_true, decide_eq_true_eq] at hb
        obtain ⟨⟨b1, b2⟩, b3⟩ := hb
        cases hx
        cases cmx with
        | some _ => exact hmx.elim
        | none =>
          have hrun := run_bounds (P := P) (mx := none) (cmx := none) w hlo hhi trivial false s.size s.size l m s.size h1 h2 (.inl ⟨rfl, rfl⟩) b1 b2 b3 (Int.le_refl _)
          refine ⟨.string (s.extract l.toNat m.toNat), ?_, .str _ _⟩
          simp only [Instr.sliceAt, Instr.slice, Sem.run_bind, run_underlying k.und, Result.andThen_ok, Option.isSome_none, Bool.false_eq_true, if_false, hrun, Sem.run_pure]
      · cases h
    · -- nil
      rename_i e hk
      have hd := kind_slice (show kindOk (.slice e) d = true from hk ▸ k.kind)
      subst hd
      split at h
      · rename_i ei l m q hei h1 h2 h3
        obtain ⟨i2, d2, z2, k2⟩ := hT e _ hei
        cases hs : (mx.isSome && !hi.isSome) with
        | true => rw [hs] at h; cases h
        | false =>
          rw [hs] at h
          simp only [cond_false, Option.some.injEq, Prod.mk.injEq] at h
          obtain ⟨e1, rfl⟩ := h
          rw [← e1] at hb
          simp only [Bool.and_eq_true, decide_eq_true_eq] at hb
          obtain ⟨⟨rfl, rfl⟩, rfl⟩ := hb
          cases hx
          have hrun := run_bounds (P := P) w hlo hhi hmx true 0 0 0 0 0 h1 (by simpa using h2) (mxq 0 0 (by simpa using h3) hs) (Int.le_refl _) (Int.le_refl _) (Int.le_refl _) (Int.le_refl _)
          refine ⟨_, ?_, .nils _⟩
          simp only [Instr.sliceAt, Instr.slice, Sem.run_bind, run_underlying k.und, Result.andThen_ok, hrun, run_sizeOf k2.info, Sem.run_pure]
          rfl
      · cases h
    · -- immutable ones
      rename_i e sz xs tk hk
      have hd := kind_slice (show kindOk (.slice e) d = true from hk ▸ k.kind)
      subst hd
      split at h
      · rename_i ei l m q hei h1 h2 h3
        obtain ⟨i2, d2, z2, k2⟩ := hT e _ hei
        cases hs : (mx.isSome && !hi.isSome || !(sz == ei.size)) with
        | true => rw [hs] at h; cases h
        | false =>
          rw [hs] at h
          simp only [cond_false, Option.some.injEq, Prod.mk.injEq] at h
          obtain ⟨e1, rfl⟩ := h
          rw [← e1] at hb
          simp only [Bool.and_eq_true, decide_eq_true_eq] at hb
          obtain ⟨⟨⟨b1, b2⟩, b3⟩, b4⟩ := hb
          simp only [Bool.or_eq_false_iff, Bool.not_eq_false', beq_iff_eq] at hs
          obtain ⟨hs, hsz⟩ := hs
          have hsz' : sz = i2.size := by rw [k2.size]; exact hsz
          have m4 : m.toNat ≤ xs.length := by omega
          -- whatever the capacity is
          have hq : ∀ cap : Nat, xs.length ≤ cap → ∃ q', ((mx = none ∧ q' = (cap : Int)) ∨ (hi.isSome = true ∧ ∃ k, mx = some (.int k q'))) ∧ m ≤ q' ∧ q' ≤ (cap : Int) := fun cap hc => by
            rcases mxq xs.length q h3 hs with ⟨h5, _⟩ | ⟨h5, kk, h6⟩
            · exact ⟨cap, .inl ⟨h5, rfl⟩, by omega, Int.le_refl _⟩
            · exact ⟨q, .inr ⟨h5, kk, h6⟩, b3, by omega⟩
          cases hx with
          | psl0 =>
            rename_i aa cap
            simp at m4
            have e1 : l.toNat = 0 := by omega
            have e2 : m.toNat = 0 := by omega
            obtain ⟨q', hq1, hq2, hq3⟩ := hq cap (Nat.zero_le _)
            have hrun := run_bounds (P := P) w hlo hhi hmx true 0 cap l m q' h1 (by simpa using h2) hq1 b1 b2 hq2 hq3
            rw [e1, e2] at hrun
            refine ⟨.slice (if q'.toNat = 0 then aa else aa.map (·.add (0 * i2.size))) 0 (q'.toNat - 0), ?_, ?_⟩
            · simp only [Instr.sliceAt, Instr.slice, Sem.run_bind, run_underlying k.und, Result.andThen_ok, hrun, run_sizeOf k2.info, Sem.run_pure]
            · simp only [List.drop_nil, List.take_nil]
              exact .psl0 _ _ _ _
          | psl _ _ _ _ b off cap c c0 c1 c2 c3 c4 =>
            obtain ⟨q', hq1, hq2, hq3⟩ := hq cap c0
            have hrun := run_bounds (P := P) w hlo hhi hmx true xs.length cap l m q' h1 h2 hq1 b1 b2 hq2 hq3
            by_cases hcl : q'.toNat = l.toNat
            · have e0 : m.toNat - l.toNat = 0 := by omega
              refine ⟨.slice (some ⟨b, off, none⟩) (m.toNat - l.toNat) (q'.toNat - l.toNat), ?_, ?_⟩
              · simp only [Instr.sliceAt, Instr.slice, Sem.run_bind, run_underlying k.und, Result.andThen_ok, hrun, run_sizeOf k2.info, Sem.run_pure]
                rw [if_pos hcl]
              · rw [e0, List.take_zero]
                exact Rv.psl (φ := φ) μ sz [] .any b off (q'.toNat - l.toNat) (fun _ _ => Go.undef) (by simp) (fun i hi => by simp at hi) (fun i j hi => by simp at hi) (fun i j hi => by simp at hi) trivial
            · refine ⟨.slice (some ⟨b, off + l.toNat * sz, none⟩) (m.toNat - l.toNat) (q'.toNat - l.toNat), ?_, ?_⟩
              · simp only [Instr.sliceAt, Instr.slice, Sem.run_bind, run_underlying k.und, Result.andThen_ok, hrun, run_sizeOf k2.info, Sem.run_pure]
                rw [if_neg hcl, ← hsz']
                simp only [Option.map_some, Addr.add]
                split <;> simp_all
              · have hlen : ((xs.drop l.toNat).take (m.toNat - l.toNat)).length = m.toNat - l.toNat := by simp; omega
                have hget : ∀ i, i < m.toNat - l.toNat → ((xs.drop l.toNat).take (m.toNat - l.toNat)).getD i [] = xs.getD (l.toNat + i) [] := fun i hi => by
                  simp [hi, List.getElem?_drop]
                have := Rv.psl (φ := φ) μ sz ((xs.drop l.toNat).take (m.toNat - l.toNat)) .any b (off + l.toNat * sz) (q'.toNat - l.toNat) (fun i j => c (l.toNat + i) j) (by omega) (fun i hi => by rw [hget i (by omega)]; exact c1 _ (by omega))
                  (fun i j hi hj => by
                    have := c2 (l.toNat + i) j (by omega) hj
                    rw [Nat.add_mul, ← Nat.add_assoc] at this
                    exact this) (fun i j hi hj => by rw [hget i (by omega)]; exact c3 _ j (by omega) hj) trivial
                rwa [hlen] at this
      · cases h
    · -- own blocks
      rename_i e id sz o n cap hk
      have hd := kind_slice (show kindOk (.slice e) d = true from hk ▸ k.kind)
      subst hd
      split at h
      · rename_i ei l m q hei h1 h2 h3
        obtain ⟨i2, d2, z2, k2⟩ := hT e _ hei
        cases hs : (mx.isSome && !hi.isSome || !(sz == ei.size)) with
        | true => rw [hs] at h; cases h
        | false =>
          rw [hs] at h
          simp only [cond_false, Option.some.injEq, Prod.mk.injEq] at h
          obtain ⟨e1, rfl⟩ := h
          rw [← e1] at hb
          simp only [Bool.and_eq_true, decide_eq_true_eq] at hb
          obtain ⟨⟨⟨b1, b2⟩, b3⟩, b4⟩ := hb
          simp only [Bool.or_eq_false_iff, Bool.not_eq_false', beq_iff_eq] at hs
          obtain ⟨hs, hsz⟩ := hs
          have hsz' : sz = i2.size := by rw [k2.size]; exact hsz
          cases hx with
          | lsl _ _ _ _ _ _ b hbm hcap =>
            have hrun := run_bounds (P := P) w hlo hhi hmx true n cap l m q h1 h2 (mxq cap q h3 hs) b1 b2 b3 b4
            refine ⟨.slice (some ⟨b, cond (Nat.beq q.toNat l.toNat) o (o + l.toNat * sz), none⟩) (m.toNat - l.toNat) (q.toNat - l.toNat), ?_, .lsl _ _ _ _ _ _ _ hbm (by omega)⟩
            simp only [Instr.sliceAt, Instr.slice, Sem.run_bind, run_underlying k.und, Result.andThen_ok, hrun, run_sizeOf k2.info, Sem.run_pure]
            by_cases hcl : q.toNat = l.toNat
            · rw [if_pos hcl, show Nat.beq q.toNat l.toNat = true from nbeq_t hcl]; rfl
            · rw [if_neg hcl, show Nat.beq q.toNat l.toNat = false from nbeq_f hcl, ← hsz']
              simp only [Option.map_some, Addr.add, cond_false]
              split <;> simp_all
      · cases h
    · -- growing blocks
      rename_i e id sz o n clo' ex ver hk
      have hd := kind_slice (show kindOk (.slice e) d = true from hk ▸ k.kind)
      subst hd
      split at h
      · rename_i ei l m hei h1 h2
        obtain ⟨i2, d2, z2, k2⟩ := hT e _ hei
        cases hs : (!(sz == ei.size)) with
        | true => rw [hs] at h; cases h
        | false =>
          rw [hs] at h
          simp only [cond_false, Option.some.injEq, Prod.mk.injEq] at h
          obtain ⟨e1, rfl⟩ := h
          rw [← e1] at hb
          simp only [Bool.and_eq_true, decide_eq_true_eq] at hb
          obtain ⟨⟨b1, b2⟩, b3⟩ := hb
          simp only [Bool.not_eq_false', beq_iff_eq] at hs
          have hsz' : sz = i2.size := by rw [k2.size]; exact hs
          cases cmx with
          | some _ => exact hmx.elim
          | none =>
            cases hx with
            | gsl _ _ _ _ _ _ _ _ b mm cc a g1 g2 g3 g4 g5 g6 =>
              have hrun := run_bounds (P := P) (mx := none) (cmx := none) w hlo hhi trivial true n cc l m cc h1 h2 (.inl ⟨rfl, rfl⟩) b1 b2 (by omega) (Int.le_refl _)
              rw [Int.toNat_natCast] at hrun
              refine ⟨.slice (if cc = l.toNat then some a else some (a.add (l.toNat * i2.size))) (m.toNat - l.toNat) (cc - l.toNat), ?_, ?_⟩
              · simp only [Instr.sliceAt, Instr.slice, Sem.run_bind, run_underlying k.und, Result.andThen_ok, hrun, run_sizeOf k2.info, Sem.run_pure, Option.map_some]
              · have hadd : ver = mm → a.add (l.toNat * i2.size) = ⟨b, o + l.toNat * sz, none⟩ := fun e => by
                  rw [(g6 e).1, ← hsz']
                  simp only [Addr.add]
                  split <;> simp_all
                cases hc : (Nat.blt l.toNat clo' || Nat.beq l.toNat 0) with
                | true =>
                  simp only [cond_true]
                  have hne : cc = l.toNat → l.toNat = 0 := fun e => by
                    simp only [Bool.or_eq_true, Nat.blt_eq, Nat.beq_eq] at hc
                    omega
                  by_cases hcl : cc = l.toNat
                  · have h0 := hne hcl
                    rw [if_pos hcl]
                    refine .gsl _ _ _ _ _ _ _ _ b mm _ a g1 g2 (by omega) (by omega) (fun e => by have := g5 e; omega) (fun e => ?_)
                    obtain ⟨k1, S, k3, k4⟩ := g6 e
                    refine ⟨by rw [k1, h0]; simp, S, k3, ?_⟩
                    rw [h0]; simpa using k4
                  · rw [if_neg hcl]
                    refine .gsl _ _ _ _ _ _ _ _ b mm _ _ g1 g2 (by omega) (by omega) (fun e => by have := g5 e; omega) (fun e => ?_)
                    obtain ⟨k1, S, k3, k4⟩ := g6 e
                    refine ⟨hadd e, S, k3, ?_⟩
                    have : l.toNat * sz + (cc - l.toNat) * sz = cc * sz := by rw [← Nat.add_mul]; congr 1; omega
                    omega
                | false =>
                  simp only [cond_false]
                  simp only [Bool.or_eq_false_iff] at hc
                  obtain ⟨hc1, hc2⟩ := hc
                  have hlt : ¬ l.toNat < clo' := nblt_f hc1
                  cases ex with
                  | true =>
                    have hcc := g5 rfl
                    have hcl : cc = l.toNat := by omega
                    rw [if_pos hcl, show m.toNat - l.toNat = 0 by omega, show cc - l.toNat = 0 by omega]
                    simp only [cond_true]
                    refine .gsl _ _ _ _ _ _ _ _ b mm _ a g1 g2 (Nat.le_refl _) (Nat.le_refl _) (fun _ => rfl) (fun e => ?_)
                    obtain ⟨k1, S, k3, k4⟩ := g6 e
                    exact ⟨k1, S, k3, by omega⟩
                  | false =>
                    simp only [cond_false]
                    rw [show m.toNat - l.toNat = 0 by omega]
                    exact .psl0 _ _ _ _
      · rename_i ei l m kq q hei h1 h2
        obtain ⟨i2, d2, z2, k2⟩ := hT e _ hei
        cases hs : (!hi.isSome || !(sz == ei.size)) with
        | true => rw [hs] at h; cases h
        | false =>
          rw [hs] at h
          simp only [cond_false, Option.some.injEq, Prod.mk.injEq] at h
          obtain ⟨e1, rfl⟩ := h
          rw [← e1] at hb
          simp only [Bool.and_eq_true, decide_eq_true_eq] at hb
          obtain ⟨⟨⟨b1, b2⟩, b3⟩, b4⟩ := hb
          simp only [Bool.or_eq_false_iff, Bool.not_eq_false', beq_iff_eq] at hs
          obtain ⟨hs, hsz⟩ := hs
          have hsz' : sz = i2.size := by rw [k2.size]; exact hsz
          cases hx with
          | gsl _ _ _ _ _ _ _ _ b mm cc a g1 g2 g3 g4 g5 g6 =>
            have hrun := run_bounds (P := P) w hlo hhi hmx true n cc l m q h1 h2 (.inr ⟨hs, _, rfl⟩) b1 b2 b3 (by omega)
            refine ⟨.slice (if q.toNat = l.toNat then some a else some (a.add (l.toNat * i2.size))) (m.toNat - l.toNat) (q.toNat - l.toNat), ?_, ?_⟩
            · simp only [Instr.sliceAt, Instr.slice, Sem.run_bind, run_underlying k.und, Result.andThen_ok, hrun, run_sizeOf k2.info, Sem.run_pure, Option.map_some]
            · by_cases hcl : q.toNat = l.toNat
              · rw [if_pos hcl, show Nat.beq q.toNat l.toNat = true from nbeq_t hcl]
                refine .gsl _ _ _ _ _ _ _ _ b mm _ a g1 g2 (by omega) (Nat.le_refl _) (fun _ => rfl) (fun e => ?_)
                obtain ⟨k1, S, k3, k4⟩ := g6 e
                exact ⟨k1, S, k3, by simp only [cond_true]; rw [hcl, Nat.sub_self, Nat.zero_mul]; omega⟩
              · rw [if_neg hcl, show Nat.beq q.toNat l.toNat = false from nbeq_f hcl]
                refine .gsl _ _ _ _ _ _ _ _ b mm _ _ g1 g2 (by omega) (Nat.le_refl _) (fun _ => rfl) (fun e => ?_)
                obtain ⟨k1, S, k3, k4⟩ := g6 e
                refine ⟨?_, S, k3, ?_⟩
                · rw [k1, ← hsz']
                  simp only [Addr.add, cond_false]
                  split <;> simp_all
                · simp only [cond_false]
                  have h7 : l.toNat * sz + (q.toNat - l.toNat) * sz = q.toNat * sz := by rw [← Nat.add_mul]; congr 1; omega
                  have h8 : q.toNat * sz ≤ cc * sz := Nat.mul_le_mul_right _ (by omega)
                  omega
      · cases h
    · -- arrays
      rename_i n e id o hk
      have hd := kind_arr (show kindOk (.arr n e) d = true from hk ▸ k.kind)
      subst hd
      split at h
      · rename_i ei l m q hei h1 h2 h3
        obtain ⟨i2, d2, z2, k2⟩ := hT e _ hei
        cases hs : (mx.isSome && !hi.isSome) with
        | true => rw [hs] at h; cases h
        | false =>
          rw [hs] at h
          simp only [cond_false, Option.some.injEq, Prod.mk.injEq] at h
          obtain ⟨e1, rfl⟩ := h
          rw [← e1] at hb
          simp only [Bool.and_eq_true, decide_eq_true_eq] at hb
          obtain ⟨⟨⟨b1, b2⟩, b3⟩, b4⟩ := hb
          cases hx with
          | ptr _ _ _ b hbm =>
            have hrun := run_bounds (P := P) w hlo hhi hmx false n n l m q h1 h2 (mxq n q h3 hs) b1 b2 b3 b4
            refine ⟨.slice (some ⟨b, cond (Nat.beq q.toNat l.toNat) o (o + l.toNat * ei.size), none⟩) (m.toNat - l.toNat) (q.toNat - l.toNat), ?_, .lsl _ _ _ _ _ _ _ hbm (by omega)⟩
            simp only [Instr.sliceAt, Sem.run_bind, run_underlying k.und, Result.andThen_ok, Instr.sureAddr, Sem.run_pure, hrun, run_sizeOf k2.info]
            by_cases hcl : q.toNat = l.toNat
            · rw [if_pos hcl, show Nat.beq q.toNat l.toNat = true from nbeq_t hcl]; rfl
            · rw [if_neg hcl, show Nat.beq q.toNat l.toNat = false from nbeq_f hcl, k2.size]
              simp only [Addr.add, cond_false]
              split <;> simp_all
      · cases h
    · cases h
  · cases h

theorem indexO_ok {t : Nat} {x i : V} {cx ci : Value} {b : Bool} {v : V} (hx : Rv φ μ x cx) (hi : Rv φ μ i ci) (h : indexO T t x i = some (b, v)) (hb : b = true) : ∃ cv, (Instr.index t cx ci).run P w = .ok cv w ∧ Rv φ μ v cv := by
  unfold indexO at h
  split at h
  · rename_i ti hti
    obtain ⟨inf, d, z, k⟩ := hT t ti hti
    split at h
    · rename_i n e cs kk m hk'
      have hd := kind_arr (show kindOk (.arr n e) d = true from hk' ▸ k.kind)
      subst hd
      split at h
      · rename_i ei hei
        obtain ⟨i2, d2, z2, k2⟩ := hT e ei hei
        split at h
        · rename_i b' v' hv
          simp only [Option.some.injEq, Prod.mk.injEq] at h
          obtain ⟨e1, rfl⟩ := h
          rw [← e1] at hb
          simp only [Bool.and_eq_true, decide_eq_true_eq] at hb
          obtain ⟨⟨b1, b2⟩, b3⟩ := hb
          obtain ⟨c, rfl, hA⟩ := hx.agg_inv
          cases hi
          obtain ⟨cv, g1, g2⟩ := partT_ok hT hA hv b3 w
          refine ⟨cv, ?_, g2⟩
          simp only [Instr.index, asIntOf, Sem.run_bind, Sem.run_pure, run_underlying k.und, Result.andThen_ok]
          rw [if_pos ⟨b1, b2⟩]
          simp only [Sem.run_bind, run_sizeOf k2.info, Result.andThen_ok, k2.size, g1]
        · cases h
      · cases h
    · rename_i s kk m hk'
      have hd := kind_str (show kindOk .str d = true from hk' ▸ k.kind)
      subst hd
      simp only [Option.some.injEq, Prod.mk.injEq] at h
      obtain ⟨e1, rfl⟩ := h
      rw [← e1] at hb
      simp only [Bool.and_eq_true, decide_eq_true_eq] at hb
      obtain ⟨b1, b2⟩ := hb
      cases hx; cases hi
      have hlt : m.toNat < s.size := by omega
      have h2 : s[m.toNat]? = some (s.data.toList.getD m.toNat 0) := by
        have hlt' : m.toNat < s.data.size := hlt
        rw [show s[m.toNat]? = some s[m.toNat] from getElem?_pos s m.toNat hlt]
        congr 1
        rw [List.getD_eq_getElem?_getD, List.getElem?_eq_getElem (by simpa using hlt')]
        simp
        rfl
      refine ⟨.int .u8 (s.data.toList.getD m.toNat 0).toNat, ?_, .int _ _ _⟩
      simp only [Instr.index, asIntOf, Sem.run_bind, Sem.run_pure, run_underlying k.und, Result.andThen_ok, b1, if_true, h2]
    · cases h
  · cases h

theorem indexAddrO_ok {t : Nat} {x i : V} {cx ci : Value} {b : Bool} {v : V} (hx : Rv φ μ x cx) (hi : Rv φ μ i ci) (h : indexAddrO T t x i = some (b, v)) (hb : b = true) : ∃ cv, (Instr.indexAt t cx ci).run P w = .ok cv w ∧ Rv φ μ v cv := by
  unfold indexAddrO at h
  split at h
  · rename_i ti hti
    obtain ⟨inf, d, z, k⟩ := hT t ti hti
    have sl : ∀ {e : Nat} {d2 : TypeInfo} {a : Addr} {n : Nat} {cap : Nat} {kk : IntKind} {m : Int}, P.underlying t = some (.slice e) → P.info? e = some d2 → 0 ≤ m → m < n → (Instr.indexAt t (.slice (some a) n cap) (.int kk m)).run P w = .ok (.pointer (some (a.add (m.toNat * d2.size)))) w := fun hu hi h1 h2 => by
      simp only [Instr.indexAt, asIntOf, Sem.run_bind, Sem.run_pure, run_underlying hu, Result.andThen_ok]
      simp only [h1, h2, and_self, if_true, Sem.run_bind, run_sizeOf hi, Result.andThen_ok, Sem.run_pure]
    have ar : ∀ {e mm : Nat} {d2 : TypeInfo} {a : Addr} {kk : IntKind} {m : Int}, P.underlying t = some (.array mm e) → P.info? e = some d2 → 0 ≤ m → m < mm → (Instr.indexAt t (.pointer (some a)) (.int kk m)).run P w = .ok (.pointer (some (a.add (m.toNat * d2.size)))) w := fun hu hi h1 h2 => by
      simp only [Instr.indexAt, asIntOf, Sem.run_bind, Sem.run_pure, run_underlying hu, Result.andThen_ok, Instr.sureAddr]
      simp only [h1, h2, and_self, if_true, Sem.run_bind, run_sizeOf hi, Result.andThen_ok, Sem.run_pure]
    have ad : ∀ (b o q : Nat), (⟨b, o, none⟩ : Addr).add q = ⟨b, o + q, none⟩ := fun b o q => by
      simp only [Addr.add]; split <;> simp_all
    split at h
    · rename_i e sz xs tok kk n hk'
      have hd := kind_slice (show kindOk (.slice e) d = true from hk' ▸ k.kind)
      subst hd
      split at h
      · rename_i ei hei
        obtain ⟨inf2, d2, z2, k2⟩ := hT e ei hei
        cases hsz : (sz == ei.size) with
        | false => rw [hsz] at h; cases h
        | true =>
          rw [hsz] at h
          have hsz' : sz = inf2.size := by rw [k2.size]; simpa using hsz
          simp only [cond_true, Option.some.injEq, Prod.mk.injEq] at h
          obtain ⟨e1, rfl⟩ := h
          rw [← e1] at hb
          simp only [Bool.and_eq_true, decide_eq_true_eq] at hb
          obtain ⟨b1, b2⟩ := hb
          cases hi
          cases hx with
          | psl0 => simp at b2; omega
          | psl _ _ _ _ b off cap c h0 h1 h2 h3 h4 =>
            have hl : n.toNat < xs.length := by omega
            have hlen := h1 n.toNat hl
            refine ⟨_, sl k.und k2.info b1 b2, ?_⟩
            rw [ad, ← hsz']
            exact .iptr _ _ b (off + n.toNat * sz) (fun j => c n.toNat j) (fun j hj => h2 n.toNat j hl (by omega)) (fun j hj => h3 n.toNat j hl (by omega))
      · cases h
    · rename_i e id sz q m cap kk n hk'
      have hd := kind_slice (show kindOk (.slice e) d = true from hk' ▸ k.kind)
      subst hd
      split at h
      · rename_i ei hei
        obtain ⟨inf2, d2, z2, k2⟩ := hT e ei hei
        cases hsz : (sz == ei.size) with
        | false => rw [hsz] at h; cases h
        | true =>
          rw [hsz] at h
          have hsz' : sz = inf2.size := by rw [k2.size]; simpa using hsz
          simp only [cond_true, Option.some.injEq, Prod.mk.injEq] at h
          obtain ⟨e1, rfl⟩ := h
          rw [← e1] at hb
          simp only [Bool.and_eq_true, decide_eq_true_eq] at hb
          obtain ⟨b1, b2⟩ := hb
          cases hi
          cases hx with
          | lsl _ _ _ _ _ _ b hbm hcap =>
            refine ⟨_, sl k.und k2.info b1 b2, ?_⟩
            rw [ad, ← hsz']
            exact .ptr _ _ _ _ hbm
      · cases h
    · rename_i e id sz q m lo ex ver kk n hk'
      have hd := kind_slice (show kindOk (.slice e) d = true from hk' ▸ k.kind)
      subst hd
      split at h
      · rename_i ei hei
        obtain ⟨inf2, d2, z2, k2⟩ := hT e ei hei
        cases hsz : (sz == ei.size) with
        | false => rw [hsz] at h; cases h
        | true =>
          rw [hsz] at h
          have hsz' : sz = inf2.size := by rw [k2.size]; simpa using hsz
          simp only [cond_true, Option.some.injEq, Prod.mk.injEq] at h
          obtain ⟨e1, rfl⟩ := h
          rw [← e1] at hb
          simp only [Bool.and_eq_true, decide_eq_true_eq] at hb
          obtain ⟨b1, b2⟩ := hb
          cases hi
          cases hx with
          | gsl _ _ _ _ _ _ _ _ b mm cc a g1 g2 g3 g4 g5 g6 =>
            refine ⟨_, sl k.und k2.info b1 b2, ?_⟩
            exact .gptr _ _ _ _ b mm _ g1 g2 (fun e => by rw [(g6 e).1, ad, ← hsz'])
      · cases h
    · rename_i m e id q kk n hk'
      have hd := kind_arr (show kindOk (.arr m e) d = true from hk' ▸ k.kind)
      subst hd
      split at h
      · rename_i ei hei
        obtain ⟨inf2, d2, z2, k2⟩ := hT e ei hei
        simp only [Option.some.injEq, Prod.mk.injEq] at h
        obtain ⟨e1, rfl⟩ := h
        rw [← e1] at hb
        simp only [Bool.and_eq_true, decide_eq_true_eq] at hb
        obtain ⟨b1, b2⟩ := hb
        cases hi
        cases hx with
        | ptr _ _ _ b hbm =>
          refine ⟨_, ar k.und k2.info b1 b2, ?_⟩
          rw [ad, k2.size]
          exact .ptr _ _ _ _ hbm
      · cases h
    · rename_i m e id q ver kk n hk'
      have hd := kind_arr (show kindOk (.arr m e) d = true from hk' ▸ k.kind)
      subst hd
      split at h
      · rename_i ei hei
        obtain ⟨inf2, d2, z2, k2⟩ := hT e ei hei
        simp only [Option.some.injEq, Prod.mk.injEq] at h
        obtain ⟨e1, rfl⟩ := h
        rw [← e1] at hb
        simp only [Bool.and_eq_true, decide_eq_true_eq] at hb
        obtain ⟨b1, b2⟩ := hb
        cases hi
        cases hx with
        | gptr _ _ _ _ b mm a g1 g2 g3 =>
          refine ⟨_, ar k.und k2.info b1 b2, ?_⟩
          exact .gptr _ _ _ _ b mm _ g1 g2 (fun e => by rw [g3 e, ad, k2.size])
      · cases h
    · rename_i m e cs kk n hk'
      have hd := kind_arr (show kindOk (.arr m e) d = true from hk' ▸ k.kind)
      subst hd
      split at h
      · rename_i ei hei
        obtain ⟨inf2, d2, z2, k2⟩ := hT e ei hei
        simp only [Option.some.injEq, Prod.mk.injEq] at h
        obtain ⟨e1, rfl⟩ := h
        rw [← e1] at hb
        simp only [Bool.and_eq_true, decide_eq_true_eq] at hb
        obtain ⟨b1, b2⟩ := hb
        cases hi
        cases hx with
        | iptr _ _ b off c h1 h2 =>
          refine ⟨_, ar k.und k2.info b1 b2, ?_⟩
          rw [ad, k2.size]
          refine .iptr _ _ b _ (fun j => c (n.toNat * ei.size + j)) (fun j hj => ?_) (fun j hj => ?_)
          · simp at hj; have := h1 (n.toNat * ei.size + j) (by omega); rwa [← Nat.add_assoc] at this
          · simp at hj
            have := h2 (n.toNat * ei.size + j) (by omega)
            have e : (cs.drop (n.toNat * ei.size)).getD j .undef = cs.getD (n.toNat * ei.size + j) .undef := by simp [List.getElem?_drop]
            rw [e]; exact this
      · cases h
    · cases h
  · cases h
end
end Go.Cx
