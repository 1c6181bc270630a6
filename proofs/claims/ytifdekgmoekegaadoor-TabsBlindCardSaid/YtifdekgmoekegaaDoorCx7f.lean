/- A calculus for calls of the program: canonical values and heaps, and what each operation, loop and call does to them; no condition on the program. -/
import Derived.Test.YtifdekgmoekegaaDoorCx7e
import Derived.Laws.BytesString
import Derived.Lib.Builder
namespace Go.Cx
open Go.RowKit

theorem byteV_int {v : V} (h : isByteV v = true) : ∃ n : Int, v = .int .u8 n ∧ 0 ≤ n ∧ n < 256 := by
  unfold isByteV at h
  split at h
  · simp only [Bool.and_eq_true, decide_eq_true_eq] at h
    exact ⟨_, rfl, h⟩
  · cases h

theorem bytes_of {φ : Phi} {μ : Mu} : ∀ {vs : List V} {l : List Value}, vs.length = l.length → (∀ j, j < vs.length → Rv φ μ (vs.getD j .undef) (l.getD j Go.undef)) → (vs.all isByteV) = true →
    l = (vs.map byteV).map fun b => .int .u8 b.toNat
  | [], [], _, _, _ => rfl
  | v :: vs, c :: l, hl, hr, ha => by
    simp only [List.all_cons, Bool.and_eq_true] at ha
    obtain ⟨n, rfl, h0, h1⟩ := byteV_int ha.1
    have hv := hr 0 (by simp)
    simp only [List.getD_cons_zero] at hv
    cases hv
    have ih := bytes_of (vs := vs) (l := l) (by simpa using hl) (fun j hj => by have := hr (j + 1) (by simp; omega); simpa using this) ha.2
    rw [ih]
    simp only [List.map_cons, byteV]
    congr 2
    have : n.toNat < 256 := by omega
    simp [Nat.mod_eq_of_lt this]
    omega

theorem foldl_push (ns : List Int) : ∀ (s : ByteArray), ns.foldl (fun r n => r.push (UInt8.ofNat n.toNat)) s = ⟨s.data ++ (ns.map fun n => UInt8.ofNat n.toNat).toArray⟩ := by
  induction ns with
  | nil => intro s; apply ByteArray.ext; simp
  | cons n ns ih =>
    intro s
    rw [List.foldl_cons, ih]
    apply ByteArray.ext
    simp [ByteArray.push]

theorem freeze_heap_other (w : World) (a : Addr) (n k : Nat) (h : k ≠ a.block) : (w.freeze a n).heap[k]? = w.heap[k]? := by
  unfold World.freeze
  split
  · rfl
  · simp [Array.getElem?_modify, Ne.symm h]
theorem freeze_size (w : World) (a : Addr) (n : Nat) : (w.freeze a n).heap.size = w.heap.size := by
  unfold World.freeze
  split <;> simp
theorem freeze_heap_at (w : World) (a : Addr) (n : Nat) {c : Array Value} {e : TypeId} {fr : Nat × Nat} (h : w.heap[a.block]? = some (.cells c e fr)) : ∃ fr', (w.freeze a n).heap[a.block]? = some (.cells c e fr') := by
  unfold World.freeze
  split
  · exact ⟨fr, h⟩
  · simp only [Array.getElem?_modify, if_true, h, Option.map_some]
    exact ⟨_, rfl⟩

section
variable {P : Program} {T : Nat → Option TI} {φ : Phi} {μ : Mu} {B : Nat} {h : Heap} {w : World} (r : Rel φ μ B h w) {nid : Nat} {out : Out} (hc : out.c = true)
include r

/-- A block is given up. -/
theorem OutR.die {i b n : Nat} {x : Option Nat} {cv : Value} {c : Array Value} {e : TypeId} {fr : Nat × Nat} (hb : μ i = some (b, x)) (hw : w.heap[b]? = some (.cells c e fr)) (hcell : ∀ o, φ.cell b o = none) (hwr : out.wr = [(i, .dead)]) (hv : Rv φ μ out.v cv) :
    OutR φ μ B h w nid out cv (w.freeze ⟨b, 0, none⟩ n) := by
  obtain ⟨fr', hw'⟩ := freeze_heap_at w ⟨b, 0, none⟩ n hw
  have hoth := fun k hk => freeze_heap_other w ⟨b, 0, none⟩ n k hk
  refine ⟨φ, μ, hv, ⟨r.glob, fun bb o v hh => ?_, fun bb m hm => ?_, r.inj, fun j bb y hj => ?_, fun j k hk => ?_⟩, Ext.refl _ _ _, ⟨?_, ?_, ?_, ?_, fun k hk hn => hoth k (fun e => hn i x (by rw [hb]; simp at e; rw [e])), fun k rr hk => ?_⟩, fun i hi => absurd rfl hi⟩
  · have hne : bb ≠ b := fun e => by rw [e, hcell o] at hh; cases hh
    rw [World.cell?_of_block (hoth bb hne)]
    exact r.cell bb o v hh
  · obtain ⟨c1, e1, f1, g1, g2⟩ := r.size bb m hm
    by_cases hbb : bb = b
    · subst hbb
      rw [hw] at g1
      simp only [Option.some.injEq, Obj.cells.injEq] at g1
      obtain ⟨rfl, rfl, rfl⟩ := g1
      exact ⟨c, e, fr', hw', g2⟩
    · exact ⟨c1, e1, f1, (hoth bb hbb).trans g1, g2⟩
  · rw [hwr, freeze_size]
    simp only [applyW, List.foldl_cons, List.foldl_nil, List.length_set]
    exact r.dom j bb y hj
  · rw [hwr] at hk
    simp only [applyW, List.foldl_cons, List.foldl_nil] at hk
    rw [hget_set] at hk
    split at hk
    · rename_i hh
      obtain ⟨rfl, _⟩ := hh
      simp only [Option.some.injEq] at hk
      subst hk
      exact ⟨b, x, hb, trivial⟩
    · rename_i hh
      obtain ⟨bb, y, g1, g2⟩ := r.blk j k hk
      have hil : i < h.length := (r.dom i b x hb).1
      have hne : bb ≠ b := fun e => hh ⟨r.inj i j b x y hb (e ▸ g1), hil⟩
      exact ⟨bb, y, g1, g2.mono φ.le_refl (Mu.le_refl _) (hoth bb hne) (fun _ _ h => h)⟩
  · unfold World.freeze; split <;> rfl
  · unfold World.freeze; split <;> rfl
  · unfold World.freeze; split <;> rfl
  · rw [freeze_size]; exact Nat.le_refl _
  · by_cases hkb : k = b
    · subst hkb; rw [hw] at hk; cases hk
    · exact ⟨rr, (hoth k hkb).trans hk⟩

include hc
theorem unsafeStrF_ok {pt it ty : Nat} {p n : V} {cp cn : Value} (hp : Rv φ μ p cp) (hn : Rv φ μ n cn) (hf : unsafeStrF P pt p n (hget h) = some out) : ∃ cv w', (Builtin.unsafeString_ #[pt, it] ty #[cp, cn]).run P w = .ok cv w' ∧ OutR φ μ B h w nid out cv w' := by
  unfold unsafeStrF at hf
  split at hf
  · rename_i n
    cases hn
    cases h0 : decide (n = 0) with
    | true =>
      rw [h0] at hf
      simp only [cond_true] at hf
      have h0 := of_decide_eq_true h0
      subst h0
      have hv : Rv φ μ (.str ⟨#[]⟩) (.string .empty) := .str _ _
      split at hf <;> first | (cases hf; done) | skip
      all_goals
        simp only [Option.some.injEq] at hf
        subst hf
        cases hp
        exact ⟨_, w, Lib.run_unsafeString_none w pt it ty _, OutR.same r hv rfl⟩
    | false =>
      rw [h0] at hf
      simp only [cond_false] at hf
      have h0 := of_decide_eq_false h0
      split at hf
      · rename_i id ver
        split at hf
        · rename_i ver' e s0 cs e' hh hu
          simp only [Option.some.injEq] at hf
          subst hf
          simp only [Bool.and_eq_true, decide_eq_true_eq] at hc
          obtain ⟨⟨⟨⟨⟨⟨hver, he⟩, hce⟩, b1⟩, b2⟩, b3⟩, hall⟩ := hc
          have hver := Nat.eq_of_beq_eq_true hver
          have he := Nat.eq_of_beq_eq_true he
          have hce := Nat.eq_of_beq_eq_true hce
          subst hver; subst he
          cases hp with
          | gptr _ _ _ _ b m a g1 g2 g3 =>
            obtain ⟨rfl, c, h1, h2, h3, h4⟩ := hget_grow r hh g1
            have ha := g3 rfl
            subst ha
            obtain ⟨b', x', k1, k2, _, _, _, _, _, hcell⟩ := r.blk id _ hh
            rw [g1] at k1
            simp only [Option.some.injEq, Prod.mk.injEq] at k1
            obtain ⟨rfl, _⟩ := k1
            have hlen : ((cs.take n.toNat).map byteV).length = n.toNat := by simp; omega
            have hbytes := bytes_of (φ := φ) (μ := μ) (vs := cs.take n.toNat) (l := c.toList.take n.toNat) (by simp; omega) (fun j hj => by
              simp at hj
              have := h4 j (by omega)
              have e1 : (cs.take n.toNat).getD j .undef = cs.getD j .undef := by simp [List.getElem?_take, show j < n.toNat by omega]
              have e2 : (c.toList.take n.toNat).getD j Go.undef = c.getD j Go.undef := by simp [List.getElem?_take, show j < n.toNat by omega]
              rw [e1, e2]; exact this) hall
            have hrun := Lib.run_unsafeString_row (P := P) w pt it ty e hu hce b c.size (by simp [World.shape?, h1]) ((cs.take n.toNat).map byteV) (by intro e; rw [e] at hlen; simp at hlen; omega) (by rw [hlen]; omega) (by rw [hlen]; omega) (fun j x hx => by
              rw [ad_eq, Nat.zero_add, cell_heap h1]
              have hj : j < n.toNat := by
                have := (List.getElem?_eq_some_iff.1 hx).1
                omega
              have e3 : c[j]? = (c.toList.take n.toNat)[j]? := by rw [List.getElem?_take_of_lt hj]; simp
              rw [e3, hbytes, List.getElem?_map, hx]
              rfl)
            rw [hlen] at hrun
            have hcast : ((n.toNat : Nat) : Int) = n := by omega
            rw [hcast] at hrun
            exact ⟨_, _, hrun, OutR.die r g1 h1 hcell rfl (.str _ _)⟩
        · cases hf
      · cases hf
  · cases hf

theorem convF_ok (hT : TOk P T) {s d : Nat} {x : V} {cx : Value} (hx : Rv φ μ x cx) (hf : convF P T s d x (hget h) = some out) : ∃ cv, (convert s d cx).run P w = .ok cv w ∧ OutR φ μ B h w nid out cv w := by
  unfold convF at hf
  split at hf
  · rename_i si di hsi hdi
    obtain ⟨i1, d1, z1, k1⟩ := hT _ _ hsi
    obtain ⟨i2, d2, z2, k2⟩ := hT _ _ hdi
    split at hf
    · rename_i e hk1 hk2
      have hd1 := kind_slice (show kindOk (.slice e) d1 = true from hk1 ▸ k1.kind)
      have hd2 := kind_str (show kindOk .str d2 = true from hk2 ▸ k2.kind)
      subst hd1; subst hd2
      split at hf
      · rename_i ei el hei hel
        obtain ⟨i3, d3, z3, k3⟩ := hT _ _ hei
        split at hf
        · rename_i hk3
          have hd3 := kind_int (show kindOk (.int .u8) d3 = true from hk3 ▸ k3.kind)
          subst hd3
          simp only [Option.some.injEq] at hf
          subst hf
          simp only [Bool.and_eq_true] at hc
          obtain ⟨⟨hok, hall⟩, hsl⟩ := hc
          obtain ⟨l, hl⟩ := rdE_ok (P := P) r hx hel hok
          have hbytes := bytes_of (φ := φ) (μ := μ) (vs := el.vs) (l := l) (by have := hl.rv.1; simpa using this) (fun j hj => by
            have := hl.rv.2 j hj
            have e2 : l.toArray.getD j Go.undef = l.getD j Go.undef := by simp
            rwa [e2] at this) hall
          have hfirst := hl.first el.n w (Nat.le_refl _) rfl
          rw [List.take_of_length_le (by rw [hl.sl]; exact Nat.le_refl _)] at hfirst
          have key : ∀ {a : Option Addr} {n c : Nat}, cx = .slice a n c → ∃ cv, (convert s d cx).run P w = .ok cv w ∧ Rv φ μ (.str ⟨(el.vs.map byteV).toArray⟩) cv := fun {a n c} hcx => by
            subst hcx
            have hn : n = el.n := by
              have := hl.len
              simp only [Builtin.lenOf] at this
              have := congrArg (fun s : Go.Sem Nat => match s.run P w with | .ok n _ => n | _ => 0) this
              simpa [Sem.run_pure] using this
            cases a with
            | none =>
              have h0 : l = [] := by
                simp only [Builtin.firstCells, Sem.run_pure, Result.ok.injEq] at hfirst
                have := hfirst.1
                cases l with
                | nil => rfl
                | cons _ _ => simp at this
              subst h0
              have he0 : el.vs = [] := by
                have := hl.rv.1
                exact List.length_eq_zero_iff.1 (by simpa using this)
              refine ⟨.string .empty, ?_, by rw [he0]; exact .str _ _⟩
              simp only [convert, Sem.run_bind, run_underlying k1.und, run_underlying k2.und, run_underlying k3.und, Result.andThen_ok, Conv.bytesToString, Sem.run_pure]
            | some a =>
              simp only [Builtin.firstCells, Nat.mul_one] at hfirst
              have hrun := run_bytesToString (P := P) w a n c ((el.vs.map byteV).map fun b => (b.toNat : Int)) (by
                rw [hn, hfirst, hbytes]
                simp [List.map_map, Function.comp_def])
              rw [foldl_push] at hrun
              refine ⟨_, ?_, .str _ _⟩
              simp only [convert, Sem.run_bind, run_underlying k1.und, run_underlying k2.und, run_underlying k3.und, Result.andThen_ok, hrun]
              congr 2
              apply ByteArray.ext
              simp [Function.comp_def]
          have fin : ∀ {a : Option Addr} {n c : Nat}, cx = .slice a n c → ∃ cv, (convert s d cx).run P w = .ok cv w ∧ OutR φ μ B h w nid ⟨el.ok && el.vs.all isByteV && isSl x, .str ⟨(el.vs.map byteV).toArray⟩, [], el.acc, 0⟩ cv w := fun hcx => by
            obtain ⟨cv, g1, g2⟩ := key hcx
            exact ⟨cv, g1, OutR.same r g2 rfl⟩
          cases hx with
          | nils => exact fin rfl
          | psl0 => exact fin rfl
          | psl => exact fin rfl
          | lsl => exact fin rfl
          | gsl => exact fin rfl
          | _ => cases hsl
        · cases hf
      · cases hf
    · rename_i t hk1 hk2
      have hd1 := kind_ptr (show kindOk (.ptr t) d1 = true from hk1 ▸ k1.kind)
      have hd2 := kind_uptr (show kindOk .uptr d2 = true from hk2 ▸ k2.kind)
      subst hd1; subst hd2
      split at hf
      · simp only [Option.some.injEq] at hf
        subst hf
        cases hx
        refine ⟨.pointer none, ?_, OutR.same r (.nilp _) rfl⟩
        simp only [convert, Sem.run_bind, run_underlying k1.und, run_underlying k2.und, Result.andThen_ok, Conv.unsafePointer, Sem.run_pure]
      · rename_i ti id o' hti
        obtain ⟨i3, d3, z3, k3⟩ := hT _ _ hti
        split at hf
        · rename_i e cs hh
          simp only [Option.some.injEq] at hf
          subst hf
          simp only [Bool.and_eq_true] at hc
          obtain ⟨hsz, hlt⟩ := hc
          have hsz := nblt_t hsz
          have hlt := nblt_t hlt
          cases hx with
          | ptr _ _ _ b hb =>
            obtain ⟨c, h1, h2⟩ := hget_cells r hh hb
            have := h2.1
            exact ⟨_, Lib.run_to_unsafe (P := P) w (t := t) (e := e) (cells := c.size) ⟨b, o', none⟩ k1.und k2.und k3.info (by rw [k3.size]; omega) (by simp [World.shape?, h1]) (by show o' < c.size; omega), OutR.same r (.ptr _ _ _ _ hb) rfl⟩
        · cases hf
      · cases hf
    · rename_i t hk1 hk2
      have hd1 := kind_uptr (show kindOk .uptr d1 = true from hk1 ▸ k1.kind)
      have hd2 := kind_ptr (show kindOk (.ptr t) d2 = true from hk2 ▸ k2.kind)
      subst hd1; subst hd2
      split at hf
      · simp only [Option.some.injEq] at hf
        subst hf
        cases hx
        refine ⟨.pointer none, ?_, OutR.same r (.nilp _) rfl⟩
        simp only [convert, Sem.run_bind, run_underlying k1.und, run_underlying k2.und, Result.andThen_ok, Conv.unsafePointer, Sem.run_pure]
      · rename_i ti id o' hti
        obtain ⟨i3, d3, z3, k3⟩ := hT _ _ hti
        split at hf
        · rename_i e cs hh
          simp only [Option.some.injEq] at hf
          subst hf
          cases hx with
          | ptr _ _ _ b hb =>
            obtain ⟨c, h1, h2⟩ := hget_cells r hh hb
            exact ⟨_, Lib.run_from_unsafe (P := P) w (u := t) (e := e) (cells := c.size) ⟨b, o', none⟩ k1.und k2.und k3.info (by simp [World.shape?, h1]) (by rw [← h2.1]; exact hc), OutR.same r (.ptr _ _ _ _ hb) rfl⟩
        · cases hf
      · cases hf
    · cases hp : pv (convV T s d x) with
      | none => rw [hp] at hf; cases hf
      | some cv =>
        obtain ⟨c0, v0⟩ := cv
        rw [hp] at hf
        simp only [Option.some.injEq] at hf
        subst hf
        have hpure := pureO_ok (P := P) hT (ev := fun z => match z with | .const c => ofC c | _ => x) (ρ := fun z => match z with | .const c => c | _ => cx) (φ := φ) (μ := μ) (fun z => by cases z <;> first | exact ofC_rv _ _ _ | exact hx) { dst := none, op := .convert s d (.tmp 0), type := 0, pos := "", after := #[], guard := none } w (b := c0) (v := v0) hp hc
        obtain ⟨cv, g1, g2⟩ := hpure
        refine ⟨cv, ?_, OutR.same r g2 rfl⟩
        simp only [execOp, Sem.run_bind] at g1
        generalize (convert s d cx).run P w = res at g1
        cases res with
        | ok v w' => simp only [Result.andThen_ok, Sem.run_pure, Result.ok.injEq, Next.value.injEq] at g1; rw [g1.1, g1.2]
        | _ => cases g1
  · cases hf
end
end Go.Cx
