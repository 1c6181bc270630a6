/- What functions of this seat compute, each for every argument of the shapes that are named; no condition beside the stated ones. -/
import Derived.Test.YtchadfgdcncpkaaGreatLH3g
import Derived.Test.YtchadfgdcncpkaaGreatCx26
namespace Go.Cx
open Go.Proofs Go.Row
set_option maxRecDepth 100000
set_option maxHeartbeats 8000000
/-! ### Rows of a grid -/
theorem rowsP_len (l : List (List Cl)) : (rowsP l).length = l.length := by simp [rowsP]
theorem rowsP_flat (l : List (List Cl)) : (rowsP l).flatten = rowsC l := by
  unfold rowsP rowsC
  induction l with
  | nil => rfl
  | cons r l ih => rw [List.map_cons, List.flatten_cons, ih]; rfl
theorem rowsP_sz (l : List (List Cl)) : ∀ x ∈ rowsP l, x.length = 1 := by
  intro x hx
  obtain ⟨r, _, rfl⟩ := List.mem_map.1 hx
  rfl
theorem rowsP_ok (l : List (List Cl)) : ∀ x ∈ rowsP l, x.all cellOk = true := by
  intro x hx
  obtain ⟨r, _, rfl⟩ := List.mem_map.1 hx
  rfl
theorem rowsP_get {l : List (List Cl)} {i : Nat} {r : List Cl} (h : l[i]? = some r) : (rowsP l)[i]? = some [rowV r] := by
  unfold rowsP; rw [List.getElem?_map, h]; rfl
theorem rowsP_snoc {l : List (List Cl)} {i : Nat} {r : List Cl} (h : l[i]? = some r) : rowsP (l.take (i + 1)) = rowsP (l.take i) ++ [[rowV r]] := by
  obtain ⟨h1, h2⟩ := List.getElem?_eq_some_iff.1 h
  rw [List.take_succ_eq_append_getElem h1, h2]
  simp [rowsP]
def gridsV (l : List (List Cl)) : V := .psl 1 (rowsP l) .any
def envRw (g : Gr) (i : Nat) : List V := [.ptr 0 0, .undef, .undef, .undef, .undef, .psl 1 (rowsP (g.rows.take i)) (.own 2), .undef, .undef, .undef, .undef, .undef, .undef, .int .i64 g.rows.length, .int .i64 i] ++ List.replicate 10 .undef
theorem pgRows (g : Gr) (hg : g.ok) : Eff Tryz.prog 89 [.ptr 0 0] (grB g) (grB g) (gridsV g.rows) := by
  have h1 := hg.n1
  have h2 := hg.n2
  refine Eff.of rfl rfl (grB_ok g) (grB_ok g) (Nat.le_refl _) (Sem.gives (Sem.of_body tysOk md0 Tryz.func89 rfl rfl ?_))
  refine (gSize g).call [0, 1] 2 rfl rfl (by decide) rfl rfl ?_
  obtain ⟨r0, hr0⟩ : ∃ r, g.rows[0]? = some r := ⟨_, List.getElem?_eq_getElem (by omega)⟩
  refine LoopP.unroll (md := md0) ?_
  refine BCase.yes (decide_eq_true (by omega)) ?_
  refine (gRow g hg 0 r0 hr0).call [0, 1] 2 rfl rfl (by decide) rfl rfl ?_
  refine LoopP.inv (md := md0) (fun k env h => ∃ (i : Nat), k = g.rows.length - i ∧ 1 ≤ i ∧ i ≤ g.rows.length ∧ env = envRw g i ∧ h = hpOf (grB g) ++ [some (.token 1 i)]) (g.rows.length - 1) ⟨envRw g 1, _, .same ?_ rfl, 1, rfl, Nat.le_refl _, h1, rfl, rfl⟩ ?_
  · have e := rowsP_snoc hr0
    repeat (first | exact trivial | refine ⟨.inl rfl, ?_⟩ | refine ⟨.inl (congrArg (fun x => V.psl 1 x (.own 2)) e), ?_⟩ | refine ⟨.inr rfl, ?_⟩)
  rintro k _ _ ⟨i, rfl, hi0, hi, rfl, rfl⟩
  refine ⟨fun h => ?_, fun h => ?_⟩
  · have hi' : i < g.rows.length := by have := of_decide_eq_true h; omega
    obtain ⟨r, hr⟩ : ∃ r, g.rows[i]? = some r := ⟨_, List.getElem?_eq_getElem hi'⟩
    refine (gRow g hg i r hr).call [0, 1] 3 rfl rfl (by decide) rfl rfl ?_
    have hgl : (rowsP (g.rows.take i)).length = i := by rw [rowsP_len, List.length_take]; omega
    refine gdP ?_ ?_
    · have hii : Nat.beq i i = true := Nat.beq_refl i
      show (true && true && Nat.beq i (rowsP (g.rows.take i)).length && (true && true && Nat.ble (((rowsP (g.rows.take i)).length + 1) * 48) 281474976710656)) = true
      rw [hgl, hii, Nat.ble_eq_true_of_le (by omega)]; rfl
    have e := rowsP_snoc hr
    refine ⟨g.rows.length - (i + 1), envRw g (i + 1), hpOf (grB g) ++ [some (.token 1 (i + 1))], by omega, .same ?_ ?_, i + 1, rfl, by omega, hi', rfl, rfl⟩
    · repeat (first | exact trivial | refine ⟨.inl rfl, ?_⟩ | refine ⟨.inl (congrArg (fun x => V.psl 1 x (.own 2)) e), ?_⟩ | refine ⟨.inl (congrArg (V.int .i64) (wrs i 1 (by omega)).symm), ?_⟩ | refine ⟨.inr rfl, ?_⟩)
    · have e1 : Blk.token 1 (i + 1) = Blk.token 1 ((rowsP (g.rows.take i)).length + 1) := by rw [hgl]
      exact congrArg (fun x => hpOf (grB g) ++ [some x]) e1
  · have hi' : i = g.rows.length := by have := of_decide_eq_false h; omega
    subst hi'
    refine .inr (.inr ⟨_, forgT_psl, ?_, Nat.le_of_ble_eq_true rfl, .inl rfl, .inl rfl, trivial⟩)
    rw [List.take_length]; rfl
end Go.Cx
namespace Go.Cx
open Go.Proofs Go.Row
set_option maxRecDepth 100000
set_option maxHeartbeats 8000000
/-! ### Pages: their rows, their cells -/
structure Pg.gok (p : Pg) : Prop where
  g0 : p.g0.ok
  g1 : p.g1.ok
def scr (p : Pg) (other : Bool) : Gr := if other then p.g1 else p.g0
theorem pCells (p : Pg) (h : p.ok) (hg : p.gok) (other : Bool) : Eff Tryz.prog 68 [.ptr 0 0, .bool other] (pgB p) (pgB p) (gridsV (scr p other).rows) := by
  have hok := pgB_ok p h
  have h0 := pgRows p.g0 hg.g0
  have h1 := pgRows p.g1 hg.g1
  refine Eff.of rfl rfl hok hok (Nat.le_refl _) (Sem.of_body tysOk md0 Tryz.func68 rfl rfl ?_)
  refine Sem.of_body tysOk md0 Tryz.func87 rfl rfl ?_
  repeat (first | refine BCase.yes rfl ?_ | refine BCase.no rfl ?_)
  refine Sem.of_body tysOk md0 Tryz.func119 rfl rfl ?_
  cases other with
  | true =>
    refine BCase.yes rfl ?_
    refine h1.call [3, 4] 9 rfl rfl (by decide) rfl rfl ?_
    exact ⟨rfl, Nat.le_of_ble_eq_true rfl, .inl rfl, .inl rfl, .inl rfl, .inl rfl, .inl rfl, .inl rfl, .inl rfl, trivial⟩
  | false =>
    refine BCase.no rfl ?_
    refine h0.call [1, 2] 9 rfl rfl (by decide) rfl rfl ?_
    exact ⟨rfl, Nat.le_of_ble_eq_true rfl, .inl rfl, .inl rfl, .inl rfl, .inl rfl, .inl rfl, .inl rfl, .inl rfl, trivial⟩
theorem pShownL (p : Pg) (h : p.ok) (hg : p.gok) : Eff Tryz.prog 54 [.ptr 0 0] (pgB p) (pgB p) (gridsV (shG p).rows) := by
  have hok := pgB_ok p h
  have h0 := pgRows p.g0 hg.g0
  have h1 := pgRows p.g1 hg.g1
  have hp := pGrid p h
  refine Eff.of rfl rfl hok hok (Nat.le_refl _) (Sem.of_body tysOk md0 Tryz.func54 rfl rfl ?_)
  refine Sem.of_body tysOk md0 Tryz.func87 rfl rfl ?_
  repeat (first | refine BCase.yes rfl ?_ | refine BCase.no rfl ?_)
  refine Sem.of_body tysOk md0 Tryz.func88 rfl rfl ?_
  refine hp.here rfl [_] rfl ?_
  cases hm : isOf p.m ⟨true, 47⟩ with
  | true =>
    have hb : shB p = 3 := by unfold shB; rw [hm]; rfl
    have e1 : shG p = p.g1 := by unfold shG; rw [hm]; rfl
    rw [e1, hb]
    refine h1.call [3, 4] 8 rfl rfl (by decide) rfl rfl ?_
    exact ⟨rfl, Nat.le_of_ble_eq_true rfl, .inl rfl, .inl rfl, .inl rfl, .inl rfl, .inl rfl, .inl rfl, .inl rfl, trivial⟩
  | false =>
    have hb : shB p = 1 := by unfold shB; rw [hm]; rfl
    have e1 : shG p = p.g0 := by unfold shG; rw [hm]; rfl
    rw [e1, hb]
    refine h0.call [1, 2] 8 rfl rfl (by decide) rfl rfl ?_
    exact ⟨rfl, Nat.le_of_ble_eq_true rfl, .inl rfl, .inl rfl, .inl rfl, .inl rfl, .inl rfl, .inl rfl, .inl rfl, trivial⟩
theorem pAt (p : Pg) (h : p.ok) (hg : (shG p).ok) (i j : Nat) (hi : i < (shG p).rows.length) (hj : j < (shG p).cols) : Eff Tryz.prog 15 [.ptr 0 0, posV i j] (pgB p) (pgB p) (.tup [Cl.v (cellAt (shG p) i j), .bool true]) := by
  have hok := pgB_ok p h
  have hp := pGrid p h
  have hs := gAtC (shG p) hg i j hi hj
  refine Eff.of rfl rfl hok hok (Nat.le_refl _) (Sem.of_body tysOk md0 Tryz.func15 rfl rfl ?_)
  repeat (first | refine BCase.yes rfl ?_ | refine BCase.no rfl ?_)
  refine DrawP.intro tysOk mixed false ?_
  refine ⟨_, hp.hereR [0, 1, 2, 3, 4, 5, 6] [_, _] 9 rfl rfl rfl, ?_⟩
  cases hm : isOf p.m ⟨true, 47⟩ with
  | true =>
    have hb : shB p = 3 := by unfold shB; rw [hm]; rfl
    have e1 : shG p = p.g1 := by unfold shG; rw [hm]; rfl
    rw [e1] at hs ⊢
    rw [hb]
    refine ⟨_, hs.callR [3, 4] 9 rfl rfl (by decide) rfl rfl, ?_⟩
    refine ⟨by kernel_rfl, ?_⟩
    exact ⟨rfl, Nat.le_of_ble_eq_true rfl, .inl rfl, .inl rfl, .inl rfl, .inl rfl, .inl rfl, .inl rfl, .inl rfl, trivial⟩
  | false =>
    have hb : shB p = 1 := by unfold shB; rw [hm]; rfl
    have e1 : shG p = p.g0 := by unfold shG; rw [hm]; rfl
    rw [e1] at hs ⊢
    rw [hb]
    refine ⟨_, hs.callR [1, 2] 9 rfl rfl (by decide) rfl rfl, ?_⟩
    refine ⟨by kernel_rfl, ?_⟩
    exact ⟨rfl, Nat.le_of_ble_eq_true rfl, .inl rfl, .inl rfl, .inl rfl, .inl rfl, .inl rfl, .inl rfl, .inl rfl, trivial⟩
end Go.Cx
namespace Go.Cx
open Go.Proofs Go.Row
set_option maxRecDepth 100000
set_option maxHeartbeats 8000000
/-! ### Rings: copies -/
theorem sClone (l : List (List Cl)) (n : Nat) (hl : l.length = n + 1) (hn : n < 100000) (ver : Nat) : Eff Tryz.prog 85 [.gsl 0 1 0 (n + 1) (n + 1) false ver] [.grow ver 75 1 (rowsC l)] [.grow ver 75 1 (rowsC l)] (gridsV l) := by
  have hok : [Blk.grow ver 75 1 (rowsC l)].all (Blk.okB 1) = true := by
    show ((rowsC l).all V.free1 && true) = true
    rw [rowsC_free]; rfl
  refine Eff.of rfl rfl hok hok (Nat.le_refl _) (Sem.gives (Sem.of_body tysOk md1 Tryz.func85 rfl rfl ?_))
  refine BCase.no rfl ?_
  have hll : (rowsC l).length = n + 1 := by rw [rowsC_len, hl]
  have hv : Nat.beq ver ver = true := Nat.beq_refl _
  refine gdP ?_ ?_
  · show (true && (true && Nat.beq ver ver && Nat.ble (0 + (n + 1) * 1) (rowsC l).length) && (true && true && Nat.ble ((0 + (n + 1)) * 48) 281474976710656)) = true
    rw [hll, hv, Nat.ble_eq_true_of_le (by omega), Nat.ble_eq_true_of_le (by omega)]; rfl
  refine .inr (.inl ⟨2, 1, rowsP l, rowsP_sz l, rowsP_ok l, .inr ⟨0, 0 + (n + 1), 1, false, 75, ?_, ?_⟩, rfl, Nat.le_of_ble_eq_true rfl, .inl rfl, trivial⟩)
  · show V.gsl 2 1 0 (0 + (n + 1)) (0 + (n + 1)) false 0 = _
    rw [rowsP_len, hl, Nat.zero_add]
  · show some (Blk.grow 0 _ 1 ([] ++ ((rowsC l).drop 0).take ((n + 1) * 1))) = _
    rw [List.drop_zero, Nat.mul_one, List.take_of_length_le (Nat.le_of_eq hll), List.nil_append, rowsP_flat]
theorem sCloneN : Fn Tryz.prog 85 [.nils] .nils := by
  refine Fn.of_body tysOk md0 Tryz.func85 rfl rfl rfl rfl ?_
  repeat (first | refine BCase.yes rfl ?_ | refine BCase.no rfl ?_)
  rfl
/-- A ring as it is handed out: a copy. -/
def rgI (r : Rg) : V := .iptr [match r.lines with | [] => .nils | x :: l => gridsV (x :: l), .int .i64 r.first, .int .i64 r.most, .int .u8 r.lab]
theorem rgCopy (r : Rg) (h : r.ok) : Eff Tryz.prog 52 [.ptr 0 0] (rgB r) (rgB r) (rgI r) := by
  refine Eff.of rfl rfl (rgB_ok r h) (rgB_ok r h) (Nat.le_refl _) (Sem.freezeP ?_)
  have hm := h.most
  have hlen := h.len
  obtain ⟨lines, first, most, lab, ver, ge, gs, gh⟩ := r
  simp only at hm hlen
  cases lines with
  | nil =>
    refine Sem.of_body tysOk md0 Tryz.func52 rfl rfl ?_
    repeat (first | refine BCase.yes rfl ?_ | refine BCase.no rfl ?_)
    refine (sCloneN).sem _ ?_
    exact ⟨2, 110, _, rfl, rfl, rfl, rfl, Nat.le_of_ble_eq_true rfl, .inl rfl, .inl rfl, trivial⟩
  | cons x l =>
    refine Sem.of_body tysOk md0 Tryz.func52 rfl rfl ?_
    repeat (first | refine BCase.yes rfl ?_ | refine BCase.no rfl ?_)
    refine (sClone (x :: l) l.length rfl (by simp at hlen; omega) ver).call [1] 3 rfl rfl (by decide) rfl rfl ?_
    exact ⟨2, 110, _, rfl, rfl, rfl, rfl, Nat.le_of_ble_eq_true rfl, .inl rfl, .inl rfl, trivial⟩
theorem pLines (p : Pg) (h : p.ok) : Eff Tryz.prog 19 [.ptr 0 0] (pgB p) (pgB p) (rgI p.r) := by
  have hok := pgB_ok p h
  have hc := rgCopy p.r h.r
  unfold rgI at hc ⊢
  cases hl : p.r.lines with
  | nil =>
    rw [hl] at hc
    refine Eff.of rfl rfl hok hok (Nat.le_refl _) (Sem.of_body tysOk md0 Tryz.func19 rfl rfl ?_)
    refine Sem.of_body tysOk md0 Tryz.func50 rfl rfl ?_
    repeat (first | refine BCase.yes rfl ?_ | refine BCase.no rfl ?_)
    refine Sem.of_body tysOk md0 Tryz.func51 rfl rfl ?_
    refine hc.call [5, 6] 8 rfl rfl (by decide) rfl (rgB_mv p.r 8).symm ?_
    rw [rgB_mv]
    exact ⟨rfl, Nat.le_of_ble_eq_true rfl, .inl rfl, .inl rfl, .inl rfl, .inl rfl, .inl rfl, .inl rfl, .inl rfl, trivial⟩
  | cons x l =>
    rw [hl] at hc
    refine Eff.of rfl rfl hok hok (Nat.le_refl _) (Sem.of_body tysOk md0 Tryz.func19 rfl rfl ?_)
    refine Sem.of_body tysOk md0 Tryz.func50 rfl rfl ?_
    repeat (first | refine BCase.yes rfl ?_ | refine BCase.no rfl ?_)
    refine Sem.of_body tysOk md0 Tryz.func51 rfl rfl ?_
    refine hc.call [5, 6] 8 rfl rfl (by decide) rfl (rgB_mv p.r 8).symm ?_
    rw [rgB_mv]
    exact ⟨rfl, Nat.le_of_ble_eq_true rfl, .inl rfl, .inl rfl, .inl rfl, .inl rfl, .inl rfl, .inl rfl, .inl rfl, trivial⟩
theorem iLen (r : Rg) : Fn Tryz.prog 20 [rgI r] (.int .i64 r.lines.length) := by
  obtain ⟨lines, first, most, lab, ver, ge, gs, gh⟩ := r
  cases lines with
  | nil =>
    refine Fn.of_body tysOk md0 Tryz.func20 rfl rfl rfl rfl ?_
    repeat (first | refine BCase.yes rfl ?_ | refine BCase.no rfl ?_)
    rfl
  | cons x l =>
    refine Fn.of_body tysOk md0 Tryz.func20 rfl rfl rfl rfl ?_
    repeat (first | refine BCase.yes rfl ?_ | refine BCase.no rfl ?_)
    show V.int .i64 ((rowsP (x :: l)).length : Nat) = _
    rw [rowsP_len]
theorem iLabel (r : Rg) : Fn Tryz.prog 28 [rgI r] (.int .u8 r.lab) := by
  obtain ⟨lines, first, most, lab, ver, ge, gs, gh⟩ := r
  cases lines with
  | nil =>
    refine Fn.of_body tysOk md0 Tryz.func28 rfl rfl rfl rfl ?_
    repeat (first | refine BCase.yes rfl ?_ | refine BCase.no rfl ?_)
    rfl
  | cons x l =>
    refine Fn.of_body tysOk md0 Tryz.func28 rfl rfl rfl rfl ?_
    repeat (first | refine BCase.yes rfl ?_ | refine BCase.no rfl ?_)
    rfl
end Go.Cx
namespace Go.Cx
open Go.Proofs Go.Row
set_option maxRecDepth 100000
set_option maxHeartbeats 8000000
/-! ### Pages: resized -/
def zB (l : Int) : Cl := ⟨0, 0, 0, 0, ⟨0, 0, 0, 0, 0, 0, 0, 0, 0⟩, l⟩
def pResS (p : Pg) (R C : Nat) : Pg :=
  { p with g0 := resizeG p.g0 R C (zB p.a.base), g1 := resizeG p.g1 R C (zB p.a.base), a := resizeS p.a R C, t := p.t.resize C, c := stopS (withinS (resizeS p.a R C) p.c) }
theorem resizeS_ok {a : Ar} (ha : a.ok) (r k : Int) : (resizeS a r k).ok := by
  have h1 := ha.l1
  have h2 := ha.l2
  unfold resizeS
  have b1 : 1 ≤ wi r 1 512 := by unfold wi; omega
  have b2 : wi r 1 512 ≤ 512 := by unfold wi; omega
  have b3 : 1 ≤ wi k 1 512 := by unfold wi; omega
  have b4 : wi k 1 512 ≤ 512 := by unfold wi; omega
  exact ⟨b1, b2, b3, b4, Int.le_refl _, by show wi r 1 512 - 1 < wi r 1 512; omega, by show 0 < wi r 1 512 - 1 ∨ (wi r 1 512 = 1 ∧ 0 = wi r 1 512 - 1); omega, h1, h2⟩
theorem pResize (p : Pg) (h : p.ok) (hg : p.gok) (ha : p.a.ok) (ht : p.t.ok) (R C : Nat) (hm : mayB R C = true) : Eff Tryz.prog 66 [.ptr 0 0, .int .i64 R, .int .i64 C] (pgB p) (pgB (pResS p R C)) (.bool true) := by
  refine Eff.of rfl rfl (pgB_ok p h) (pgB_ok _ ⟨h.r⟩) (Nat.le_refl _) (Sem.of_body tysOk md0 Tryz.func66 rfl rfl ?_)
  have e0 := gResize p.g0 hg.g0 R C hm (zB p.a.base)
  have e1 := gResize p.g1 hg.g1 R C hm (zB p.a.base)
  have et := tResize p.t ht C
  unfold pResS
  generalize resizeG p.g0 R C (zB p.a.base) = G0 at e0 ⊢
  generalize resizeG p.g1 R C (zB p.a.base) = G1 at e1 ⊢
  generalize p.t.resize C = t' at et ⊢
  repeat (first | refine BCase.yes rfl ?_ | refine BCase.no rfl ?_)
  refine LoopP.unroll ?_
  refine BCase.yes rfl ?_
  refine gdP rfl ?_
  refine e0.call [1, 2] 7 rfl rfl (by decide) rfl rfl ?_
  repeat (first | refine BCase.yes rfl ?_ | refine BCase.no rfl ?_)
  refine LoopP.unroll ?_
  refine BCase.yes rfl ?_
  refine gdP rfl ?_
  refine e1.call [3, 4] 7 rfl rfl (by decide) rfl rfl ?_
  repeat (first | refine BCase.yes rfl ?_ | refine BCase.no rfl ?_)
  refine LoopP.unroll ?_
  refine BCase.no rfl ?_
  refine DrawP.intro tysOk mixed false ?_
  refine ⟨_, (resize_fn p.a R C).callT _ _, ?_⟩
  refine ⟨_, et.callT _ _, ?_⟩
  refine ⟨by kernel_rfl, ?_⟩
  refine DrawP.intro tysOk mixed false ?_
  refine ⟨_, (withinA_fn (resizeS p.a R C) (resizeS_ok ha R C) p.c).callT _ _, ?_⟩
  refine ⟨by kernel_rfl, ?_⟩
  exact ⟨rfl, Nat.le_of_ble_eq_true rfl, .inl rfl, .inl rfl, .inl rfl, .inl rfl, .inl rfl, .inl rfl, .inl rfl, trivial⟩
end Go.Cx
namespace Go.Cx
open Go.Proofs Go.Row
set_option maxRecDepth 100000
set_option maxHeartbeats 8000000
/-! ### Pages: new ones -/
def at0 : At := ⟨0, 0, 0, 0, 0, 0, 0, 0, 0⟩
def newP (n C : Nat) (l : Int) (most : Nat) : Pg :=
  { a := newS (n + 1 : Nat) C l, c := gotoS (newS (n + 1 : Nat) C l) 1 1, g0 := newGr n C (zB l), g1 := newGr n C (zB l), r := ⟨[], 0, most, l, 0, 55, 1, []⟩, room := most, t := Tb.resize ⟨fun _ => 0, 0, l, l⟩ C, m := 96#16, at_ := at0, last := 0, known := l }
theorem newP_ok (n C : Nat) (l : Int) (most : Nat) (hm : most ≤ 1000) : (newP n C l most).ok := ⟨⟨rfl, hm, Nat.zero_le _, .inr rfl⟩⟩
theorem newS_ok (n C : Nat) {l : Int} (h0 : 0 ≤ l) (h1 : l ≤ 1) : (newS n C l).ok := by
  unfold newS resizeS
  have b1 : 1 ≤ wi (n : Int) 1 512 := by unfold wi; omega
  have b2 : wi (n : Int) 1 512 ≤ 512 := by unfold wi; omega
  have b3 : 1 ≤ wi (C : Int) 1 512 := by unfold wi; omega
  have b4 : wi (C : Int) 1 512 ≤ 512 := by unfold wi; omega
  exact ⟨b1, b2, b3, b4, Int.le_refl _, by show wi (n : Int) 1 512 - 1 < wi (n : Int) 1 512; omega, by show 0 < wi (n : Int) 1 512 - 1 ∨ (wi (n : Int) 1 512 = 1 ∧ 0 = wi (n : Int) 1 512 - 1); omega, h0, h1⟩
theorem pNew (n C : Nat) (hm : mayB (n + 1 : Nat) C = true) (l : Int) (h0 : 0 ≤ l) (h1 : l ≤ 1) (most : Nat) (hmo : most ≤ 1000) :
    Eff Tryz.prog 8 [.int .i64 (n + 1 : Nat), .int .i64 C, .int .u8 l, .int .i64 most] [] (pgB (newP n C l most)) (.ptr 0 0) := by
  have hok := pgB_ok _ (newP_ok n C l most hmo)
  have ha := newS_ok (n + 1) C h0 h1
  have eg := gNew n C hm (zB l)
  have et := tNew C l
  unfold newP at hok ⊢
  generalize newGr n C (zB l) = G at eg hok ⊢
  generalize Tb.resize ⟨fun _ => 0, 0, l, l⟩ C = t' at et hok ⊢
  refine Eff.ofP rfl rfl rfl hok (Nat.zero_le _) (Sem.of_body tysOk md0 Tryz.func8 rfl rfl ?_)
  refine (cNewG (n + 1 : Nat) C l).call [] 0 rfl rfl (by decide) rfl rfl ?_
  refine (rgNew most hmo l).call [] 1 rfl rfl (by decide) rfl rfl ?_
  refine LoopP.unroll ?_
  refine BCase.yes rfl ?_
  refine DrawP.intro tysOk mixed false ?_
  refine ⟨_, eg.callT [] 3 rfl rfl (by decide) rfl rfl, ?_⟩
  refine ⟨by kernel_rfl, ?_⟩
  refine LoopP.unroll ?_
  refine BCase.yes rfl ?_
  refine DrawP.intro tysOk mixed false ?_
  refine ⟨_, eg.callT [] 5 rfl rfl (by decide) rfl rfl, ?_⟩
  refine ⟨by kernel_rfl, ?_⟩
  refine LoopP.unroll ?_
  repeat (first | refine BCase.yes rfl ?_ | refine BCase.no rfl ?_)
  refine (home_fn (newS (n + 1 : Nat) C l) ha).sem _ ?_
  refine et.sem _ ?_
  refine mNew.sem _ ?_
  exact ⟨[2, 3, 4, 5, 6, 1, 0], 7, rfl, by decide, fun i hi => absurd hi (Nat.not_lt_zero _), rfl, rfl⟩
end Go.Cx
namespace Go.Cx
open Go.Proofs Go.Row
set_option maxRecDepth 100000
set_option maxHeartbeats 8000000
/-! ### Pens -/
structure Pg.good (p : Pg) : Prop where
  ok : p.ok
  g : p.gok
  a : p.a.ok
  t : p.t.ok
  c : p.c.inn p.a
  r0 : (p.g0.rows.length : Int) = p.a.rows
  c0 : (p.g0.cols : Int) = p.a.cols
  r1 : (p.g1.rows.length : Int) = p.a.rows
  c1 : (p.g1.cols : Int) = p.a.cols
theorem Pg.good.sh {p : Pg} (h : p.good) : (shG p).ok := by unfold shG; split; exact h.g.g1; exact h.g.g0
theorem Pg.good.shr {p : Pg} (h : p.good) : ((shG p).rows.length : Int) = p.a.rows := by unfold shG; split; exact h.r1; exact h.r0
theorem Pg.good.shc {p : Pg} (h : p.good) : ((shG p).cols : Int) = p.a.cols := by unfold shG; split; exact h.c1; exact h.c0
def penV (b : Nat) (e : Int) : V := .agg [.ptr b 0, .int .u8 e]
theorem nAt (p : Pg) (h : p.ok) (e : Int) : Eff Tryz.prog 100 [penV 0 e] (pgB p) (pgB p) (posV p.c.row p.c.col) := by
  have hok := pgB_ok p h
  refine Eff.of rfl rfl hok hok (Nat.le_refl _) (Sem.of_body tysOk md0 Tryz.func100 rfl rfl ?_)
  refine (pCursor p h).here rfl [_, _] rfl ?_
  exact ⟨rfl, Nat.le_of_ble_eq_true rfl, .inl rfl, .inl rfl, .inl rfl, .inl rfl, .inl rfl, .inl rfl, .inl rfl, trivial⟩
theorem wrapModeF : Fn Tryz.prog 104 [] (Md.mk true 7).v := by
  refine Fn.of_body tysOk md0 Tryz.func104 rfl rfl rfl rfl ?_
  rfl
theorem insModeF : Fn Tryz.prog 111 [] (Md.mk false 4).v := by
  refine Fn.of_body tysOk md0 Tryz.func111 rfl rfl rfl rfl ?_
  rfl
/-! The next row. -/
def topRow (p : Pg) : List Cl := ((shG p).rows[p.a.top.toNat]?).getD []
def upS1 (p : Pg) (e : Int) : Pg := up1S p p.a.top.toNat p.a.bottom.toNat e (topRow p)
theorem pUpI (p : Pg) (h : p.good) (e : Int) : Eff Tryz.prog 141 [.ptr 0 0, .int .i64 p.a.top, .int .i64 p.a.bottom, .int .i64 1, .int .u8 e] (pgB p) (pgB (upS1 p e)) (.tup []) := by
  have h1 := h.a.t
  have h2 := h.a.b
  have h3 := h.a.tb
  have h4 := h.shr
  obtain ⟨x, hx⟩ : ∃ x, (shG p).rows[p.a.top.toNat]? = some x := ⟨_, List.getElem?_eq_getElem (by omega)⟩
  have := pUp1 p h.ok h.sh p.a.top.toNat p.a.bottom.toNat (by omega) (by omega) e x hx
  rw [Int.toNat_of_nonneg h1, Int.toNat_of_nonneg (by omega)] at this
  unfold upS1 topRow
  rw [hx]
  exact this
theorem setG_a (p : Pg) (g : Gr) : (setG p g).a = p.a := by unfold setG; split <;> rfl
theorem setG_c (p : Pg) (g : Gr) : (setG p g).c = p.c := by unfold setG; split <;> rfl
theorem setG_m (p : Pg) (g : Gr) : (setG p g).m = p.m := by unfold setG; split <;> rfl
theorem setG_t (p : Pg) (g : Gr) : (setG p g).t = p.t := by unfold setG; split <;> rfl
theorem setG_at (p : Pg) (g : Gr) : (setG p g).at_ = p.at_ := by unfold setG; split <;> rfl
theorem setG_last (p : Pg) (g : Gr) : (setG p g).last = p.last := by unfold setG; split <;> rfl
theorem setG_known (p : Pg) (g : Gr) : (setG p g).known = p.known := by unfold setG; split <;> rfl
theorem setG_room (p : Pg) (g : Gr) : (setG p g).room = p.room := by unfold setG; split <;> rfl
theorem upS1_a (p : Pg) (e : Int) : (upS1 p e).a = p.a := by unfold upS1 up1S; simp only; split <;> exact setG_a _ _
theorem upS1_ok {p : Pg} (h : p.ok) (e : Int) : (upS1 p e).ok := by
  unfold upS1 up1S
  simp only
  split
  · exact ⟨pushR_ok h.r _⟩
  · exact setG_ok h _
def nextS (p : Pg) (e : Int) : Pg :=
  if p.c.row = p.a.bottom then { upS1 p e with c := withinS (upS1 p e).a ⟨p.c.row, 0, false, p.c.lab⟩ }
  else { p with c := withinS p.a ⟨(moveS p.a p.c 1 0).row, 0, false, p.c.lab⟩ }
theorem nNext (p : Pg) (h : p.good) (e : Int) : Eff Tryz.prog 107 [penV 0 e] (pgB p) (pgB (nextS p e)) (.tup []) := by
  have hok := pgB_ok p h.ok
  have hix := index_fn p.a h.a p.c h.c
  have hup := pUpI p h e
  refine Eff.of rfl rfl hok (pgB_ok _ ?_) (by unfold nextS; split <;> exact Nat.le_refl _) (Sem.of_body tysOk md0 Tryz.func107 rfl rfl ?_)
  · unfold nextS
    split
    · exact ⟨(upS1_ok h.ok e).r⟩
    · exact ⟨h.ok.r⟩
  refine (pArea p h.ok).here rfl [_] rfl ?_
  refine DrawP.intro tysOk mixed false ?_
  refine ⟨_, (pCursor p h.ok).hereR [0, 1, 2, 3, 4, 5, 6] [_, _] 9 rfl rfl rfl, ?_⟩
  unfold nextS
  unfold indexS at hix
  split
  · rename_i hc
    rw [if_pos hc] at hix
    refine ⟨_, hix.callT _ _, ?_⟩
    refine ⟨by kernel_rfl, ?_⟩
    refine BCase.yes rfl ?_
    refine hup.here rfl [_, _, _] rfl ?_
    have hpl := pPlace (upS1 p e) (upS1_ok h.ok e) (by rw [upS1_a]; exact h.a) ⟨p.c.row, 0, false, p.c.lab⟩
    refine hpl.here rfl [_, _, _] rfl ?_
    exact ⟨rfl, Nat.le_of_ble_eq_true rfl, .inl rfl, .inl rfl, .inl rfl, .inl rfl, .inl rfl, .inl rfl, .inl rfl, trivial⟩
  · rename_i hc
    rw [if_neg hc] at hix
    refine ⟨_, hix.callT _ _, ?_⟩
    refine ⟨by kernel_rfl, ?_⟩
    refine BCase.no rfl ?_
    refine (pPlace p h.ok h.a ⟨(moveS p.a p.c 1 0).row, 0, false, p.c.lab⟩).here rfl [_, _, _] rfl ?_
    exact ⟨rfl, Nat.le_of_ble_eq_true rfl, .inl rfl, .inl rfl, .inl rfl, .inl rfl, .inl rfl, .inl rfl, .inl rfl, trivial⟩
def markS (p : Pg) (r e : Int) : Pg := setG p (atG (shG p) p.c.row (if p.c.wrap then p.c.col else p.c.col - 1) fun x => rmark x (if p.c.wrap then p.c.col else p.c.col - 1) r e)
theorem nMark (p : Pg) (h : p.good) (r e : Int) : Eff Tryz.prog 59 [penV 0 e, .int .i32 r] (pgB p) (pgB (markS p r e)) (.tup []) := by
  have hok := pgB_ok p h.ok
  have h1 := h.c.c1
  have h2 := h.c.c2
  have h3 := h.a.c2
  refine Eff.of rfl rfl hok (pgB_ok _ (setG_ok h.ok _)) (by unfold markS setG; split <;> exact Nat.le_refl _) (Sem.of_body tysOk md0 Tryz.func59 rfl rfl ?_)
  refine (nAt p h.ok e).here rfl [_] rfl ?_
  refine (pCursor p h.ok).here rfl [_, _] rfl ?_
  unfold markS
  cases hw : p.c.wrap with
  | true =>
    refine BCase.no (by rw [hw]; rfl) ?_
    have := pMark p h.ok h.sh p.c.row p.c.col r e
    simp only [if_true]
    refine this.here (by unfold setG; split <;> rfl) [_, _] rfl ?_
    exact ⟨rfl, Nat.le_of_ble_eq_true rfl, .inl rfl, .inl rfl, .inl rfl, .inl rfl, .inl rfl, .inl rfl, .inl rfl, trivial⟩
  | false =>
    refine BCase.yes (by rw [hw]; rfl) ?_
    have := pMark p h.ok h.sh p.c.row (p.c.col - 1) r e
    rw [show p.c.col - 1 = IntKind.i64.wrap (p.c.col - 1) from (wri (by omega) (by omega)).symm] at this ⊢
    simp only [if_false]
    refine this.here (by unfold setG; split <;> rfl) [_, _] rfl ?_
    exact ⟨rfl, Nat.le_of_ble_eq_true rfl, .inl rfl, .inl rfl, .inl rfl, .inl rfl, .inl rfl, .inl rfl, .inl rfl, trivial⟩
end Go.Cx
namespace Go.Cx
open Go.Proofs Go.Row
set_option maxRecDepth 100000
set_option maxHeartbeats 8000000
/-! ### What stays: sizes, cursors -/
theorem join2_01 (a b : Int) : 0 ≤ join2 a b ∧ join2 a b ≤ 1 := by unfold join2; split <;> omega
theorem withinS_inn {a : Ar} (ha : a.ok) {c : Cu} (hc : c.wrap = true → c.col = a.cols - 1) : (withinS a c).inn a := by
  have h1 := ha.r1
  have h2 := ha.c1
  have h3 := ha.l1
  have h4 := ha.l2
  unfold withinS
  have b1 : 0 ≤ wi c.row 0 (a.rows - 1) ∧ wi c.row 0 (a.rows - 1) < a.rows := by unfold wi; omega
  have b2 : 0 ≤ wi c.col 0 (a.cols - 1) ∧ wi c.col 0 (a.cols - 1) < a.cols := by unfold wi; omega
  refine ⟨b1.1, b1.2, b2.1, b2.2, ?_, (join2_01 _ _).2, fun h => ?_⟩
  · show a.base ≤ join2 c.lab a.base
    unfold join2; split <;> omega
  · have h : (c.wrap && (wi c.row 0 (a.rows - 1) == c.row && wi c.col 0 (a.cols - 1) == c.col)) = true := h
    simp only [Bool.and_eq_true, beq_iff_eq] at h
    show wi c.col 0 (a.cols - 1) = a.cols - 1
    rw [h.2.2]; exact hc h.1
theorem rputI_len (r : List Cl) (i : Int) (c : Cl) (w : Bool) : (rputI r i c w).length = r.length := by
  unfold rputI; split
  · rfl
  · exact rput_length _ _ _ _
theorem withinN_le (i : Int) (n : Nat) : withinN i n ≤ n := by unfold withinN; omega
theorem rinsI_len (r : List Cl) (i n : Int) (b : Cl) : (rinsI r i n b).length = r.length := by
  unfold rinsI
  have h1 := withinN_le i r.length
  have h2 := withinN_le n (r.length - withinN i r.length)
  exact rinsert_length (by omega)
/-! Grids of a size. -/
structure GrI (Q : List Cl → Prop) (g : Gr) (R C : Int) : Prop where
  ok : g.ok
  r : (g.rows.length : Int) = R
  c : (g.cols : Int) = C
  q : ∀ r ∈ g.rows, Q r
theorem GrI.set {Q : List Cl → Prop} {g : Gr} {R C : Int} (h : GrI Q g R C) {k : Nat} {r : List Cl} (hl : r.length = g.cols) (hq : Q r) : GrI Q (g.set k r) R C := by
  have hm : ∀ x ∈ g.rows.set k r, x ∈ g.rows ∨ x = r := fun x hx => List.mem_or_eq_of_mem_set hx
  refine ⟨⟨?_, ?_, h.ok.c1, h.ok.c2, fun x hx => ?_⟩, ?_, h.c, fun x hx => ?_⟩
  · show 1 ≤ (g.rows.set k r).length
    rw [List.length_set]; exact h.ok.n1
  · show (g.rows.set k r).length ≤ 512
    rw [List.length_set]; exact h.ok.n2
  · rcases hm x hx with h1 | rfl
    · exact h.ok.len x h1
    · exact hl
  · show ((g.rows.set k r).length : Int) = R
    rw [List.length_set]; exact h.r
  · rcases hm x hx with h1 | rfl
    · exact h.q x h1
    · exact hq
theorem GrI.at {Q : List Cl → Prop} {g : Gr} {R C : Int} (h : GrI Q g R C) (i j : Int) {F : List Cl → List Cl} (hl : ∀ r, (F r).length = r.length) (hq : ∀ r, r.length = g.cols → Q r → Q (F r)) : GrI Q (atG g i j F) R C := by
  unfold atG
  split
  · split
    · rename_i r hr
      have hm := List.mem_of_getElem? hr
      exact h.set (by rw [hl]; exact h.ok.len r hm) (hq r (h.ok.len r hm) (h.q r hm))
    · exact h
  · exact h
theorem GrI.map {Q : List Cl → Prop} {g : Gr} {R C : Int} (h : GrI Q g R C) {F : List Cl → List Cl} (hl : ∀ r, (F r).length = r.length) (hq : ∀ r, Q r → Q (F r)) : GrI Q (mapG g F) R C := by
  refine ⟨⟨?_, ?_, h.ok.c1, h.ok.c2, fun x hx => ?_⟩, ?_, h.c, fun x hx => ?_⟩
  · show 1 ≤ (g.rows.map F).length
    rw [List.length_map]; exact h.ok.n1
  · show (g.rows.map F).length ≤ 512
    rw [List.length_map]; exact h.ok.n2
  · obtain ⟨y, hy, rfl⟩ := List.mem_map.1 hx
    rw [hl]; exact h.ok.len y hy
  · show ((g.rows.map F).length : Int) = R
    rw [List.length_map]; exact h.r
  · obtain ⟨y, hy, rfl⟩ := List.mem_map.1 hx
    exact hq y (h.q y hy)
theorem mem_upRows {l : List (List Cl)} {t len k : Nat} {c x : List Cl} (h : x ∈ upRows l t len k c) : x ∈ l ∨ x = c := by
  unfold upRows at h
  simp only [List.mem_append] at h
  rcases h with h | (h | h) | h
  · exact .inl (List.mem_of_mem_take h)
  · exact .inl (List.mem_of_mem_drop (List.mem_of_mem_take h))
  · exact .inr (List.mem_replicate.1 h).2
  · exact .inl (List.mem_of_mem_drop h)
theorem GrI.up {Q : List Cl → Prop} {g : Gr} {R C : Int} (h : GrI Q g R C) {t len k : Nat} (hk : k ≤ len) (hl : t + len ≤ g.rows.length) {b : Cl} (hq : Q (List.replicate g.cols b)) : GrI Q { g with rows := upRows g.rows t len k (List.replicate g.cols b) } R C := by
  have e := upRows_len g.rows t len k (List.replicate g.cols b) hk hl
  refine ⟨⟨?_, ?_, h.ok.c1, h.ok.c2, fun x hx => ?_⟩, ?_, h.c, fun x hx => ?_⟩
  · show 1 ≤ (upRows _ _ _ _ _).length
    rw [e]; exact h.ok.n1
  · show (upRows _ _ _ _ _).length ≤ 512
    rw [e]; exact h.ok.n2
  · rcases mem_upRows hx with h1 | rfl
    · exact h.ok.len x h1
    · simp
  · show ((upRows _ _ _ _ _).length : Int) = R
    rw [e]; exact h.r
  · rcases mem_upRows hx with h1 | rfl
    · exact h.q x h1
    · exact hq
theorem GrI.resize {Q : List Cl → Prop} {g : Gr} {R0 C0 : Int} (h : GrI Q g R0 C0) {R C : Nat} (hm : mayB R C = true) {b : Cl} (hq : ∀ r, Q r → Q (rresize r C b)) (hb : Q (List.replicate C b)) : GrI Q (resizeG g R C b) R C := by
  have hmm := of_decide_eq_true hm
  unfold resizeG
  split
  · rename_i hle
    refine ⟨⟨?_, ?_, by show 1 ≤ C; omega, by show C ≤ 512; omega, fun x hx => ?_⟩, ?_, rfl, fun x hx => ?_⟩
    · show 1 ≤ ((g.rows.map fun r => rresize r C b).take R).length
      rw [List.length_take, List.length_map]; omega
    · show ((g.rows.map fun r => rresize r C b).take R).length ≤ 512
      rw [List.length_take, List.length_map]; omega
    · obtain ⟨y, hy, rfl⟩ := List.mem_map.1 (List.mem_of_mem_take hx)
      exact rresize_length _ _ _
    · show (((g.rows.map fun r => rresize r C b).take R).length : Int) = R
      rw [List.length_take, List.length_map, Nat.min_eq_left hle]
    · obtain ⟨y, hy, rfl⟩ := List.mem_map.1 (List.mem_of_mem_take hx)
      exact hq y (h.q y hy)
  · rename_i hle
    have hl : ((g.rows.map fun r => rresize r C b) ++ List.replicate (R - g.rows.length) (List.replicate C b)).length = R := by
      rw [List.length_append, List.length_map, List.length_replicate]; omega
    refine ⟨⟨?_, ?_, by show 1 ≤ C; omega, by show C ≤ 512; omega, fun x hx => ?_⟩, ?_, rfl, fun x hx => ?_⟩
    · show 1 ≤ ((g.rows.map fun r => rresize r C b) ++ List.replicate (R - g.rows.length) (List.replicate C b)).length
      rw [hl]; omega
    · show ((g.rows.map fun r => rresize r C b) ++ List.replicate (R - g.rows.length) (List.replicate C b)).length ≤ 512
      rw [hl]; omega
    · rcases List.mem_append.1 hx with h1 | h1
      · obtain ⟨y, hy, rfl⟩ := List.mem_map.1 h1
        exact rresize_length _ _ _
      · rw [(List.mem_replicate.1 h1).2, List.length_replicate]
    · show (((g.rows.map fun r => rresize r C b) ++ List.replicate (R - g.rows.length) (List.replicate C b)).length : Int) = R
      rw [hl]
    · rcases List.mem_append.1 hx with h1 | h1
      · obtain ⟨y, hy, rfl⟩ := List.mem_map.1 h1
        exact hq y (h.q y hy)
      · rw [(List.mem_replicate.1 h1).2]; exact hb
theorem GrI.new {Q : List Cl → Prop} {n C : Nat} (hm : mayB (n + 1 : Nat) C = true) {b : Cl} (hb : Q (List.replicate C b)) : GrI Q (newGr n C b) (n + 1 : Nat) C := by
  have hmm := of_decide_eq_true hm
  unfold newGr
  refine ⟨⟨by simp, by show (List.replicate (n + 1) _).length ≤ 512; rw [List.length_replicate]; omega, by show 1 ≤ C; omega, by show C ≤ 512; omega, fun x hx => ?_⟩, ?_, rfl, fun x hx => ?_⟩
  · rw [(List.mem_replicate.1 hx).2, List.length_replicate]
  · show ((List.replicate (n + 1) _).length : Int) = _
    rw [List.length_replicate]
  · rw [(List.mem_replicate.1 hx).2]; exact hb
/-! Pages: all of it. -/
structure PgI (Q : List Cl → Prop) (p : Pg) : Prop where
  ok : p.ok
  a : p.a.ok
  t : p.t.ok
  c : p.c.inn p.a
  g0 : GrI Q p.g0 p.a.rows p.a.cols
  g1 : GrI Q p.g1 p.a.rows p.a.cols
theorem PgI.good {Q : List Cl → Prop} {p : Pg} (h : PgI Q p) : p.good := ⟨h.ok, ⟨h.g0.ok, h.g1.ok⟩, h.a, h.t, h.c, h.g0.r, h.g0.c, h.g1.r, h.g1.c⟩
theorem Pg.good.inv {p : Pg} (h : p.good) : PgI (fun _ => True) p := ⟨h.ok, h.a, h.t, h.c, ⟨h.g.g0, h.r0, h.c0, fun _ _ => trivial⟩, ⟨h.g.g1, h.r1, h.c1, fun _ _ => trivial⟩⟩
theorem PgI.sh {Q : List Cl → Prop} {p : Pg} (h : PgI Q p) : GrI Q (shG p) p.a.rows p.a.cols := by unfold shG; split; exact h.g1; exact h.g0
theorem PgI.setG {Q : List Cl → Prop} {p : Pg} (h : PgI Q p) {g : Gr} (hg : GrI Q g p.a.rows p.a.cols) : PgI Q (setG p g) := by
  unfold Cx.setG
  split
  · exact ⟨⟨h.ok.r⟩, h.a, h.t, h.c, h.g0, hg⟩
  · exact ⟨⟨h.ok.r⟩, h.a, h.t, h.c, hg, h.g1⟩
theorem PgI.cur {Q : List Cl → Prop} {p : Pg} (h : PgI Q p) {c : Cu} (hc : c.inn p.a) : PgI Q { p with c := c } := ⟨⟨h.ok.r⟩, h.a, h.t, hc, h.g0, h.g1⟩
theorem PgI.ring {Q : List Cl → Prop} {p : Pg} (h : PgI Q p) {r : Rg} (hr : r.ok) : PgI Q { p with r := r } := ⟨⟨hr⟩, h.a, h.t, h.c, h.g0, h.g1⟩
theorem PgI.up {Q : List Cl → Prop} {p : Pg} (h : PgI Q p) (e : Int) (hq : Q (List.replicate (shG p).cols (blankOf p.at_ e))) : PgI Q (upS1 p e) := by
  have h1 := h.a.t
  have h2 := h.a.b
  have h3 := h.a.tb
  have h4 := h.sh.r
  have hs : PgI Q (Cx.setG p (upG (shG p) p.a.top.toNat p.a.bottom.toNat (blankOf p.at_ e))) := h.setG (h.sh.up (by omega) (by omega) hq)
  unfold upS1 up1S
  simp only
  split
  · exact hs.ring (pushR_ok h.ok.r _)
  · exact hs
theorem PgI.next {Q : List Cl → Prop} {p : Pg} (h : PgI Q p) (e : Int) (hq : Q (List.replicate (shG p).cols (blankOf p.at_ e))) : PgI Q (nextS p e) := by
  unfold nextS
  split
  · have hu := h.up e hq
    exact hu.cur (withinS_inn hu.a fun h => by cases h)
  · exact h.cur (withinS_inn h.a fun h => by cases h)
end Go.Cx
namespace Go.Cx
open Go.Proofs Go.Row
set_option maxRecDepth 100000
set_option maxHeartbeats 8000000
/-! ### Pens: room is made -/
def rdX (w e : Int) (wr : Bool) : List Blk := [.cells 120 [.ptr 0 0, .int .u8 e], .cells 3 [.int .i64 w], .cells 4 [.bool wr], .cells 29 [.fn (.func 105) [] [.ptr 8 0, .ptr 7 0]]]
def rdB (p : Pg) (w e : Int) (wr : Bool) : List Blk := pgB p ++ rdX w e wr
theorem rd_ok (p : Pg) (h : p.ok) (w e : Int) (wr : Bool) : (rdB p w e wr).all (Blk.okB 11) = true := by
  have h1 : Blk.okB 11 (grR p.g0) = true := rowsC_free _
  have h2 : Blk.okB 11 (grR p.g1) = true := rowsC_free _
  have h3 := rgL_ok p.r h.r 11
  have h4 : Blk.okB 11 (.cells 110 (rgC 5 p.r)) = true := ls_ok p.r 5 11 (by decide)
  show (true && (true && (Blk.okB 11 (grR p.g0) && (true && (Blk.okB 11 (grR p.g1) && (Blk.okB 11 (.cells 110 (rgC 5 p.r)) && (Blk.okB 11 (rgL p.r) && (true && (true && (true && (true && true))))))))))) = true
  rw [h1, h2, h3, h4]
  rfl
theorem dec_and (P Q : Prop) [Decidable P] [Decidable Q] : (decide P && decide Q) = decide (P ∧ Q) := by rw [Bool.decide_and]
def lateB (p : Pg) (w : Int) : Bool := decide (w > 1) && (p.c.col == p.a.cols - 1)
theorem nLate (p : Pg) (h : p.good) (w e : Int) (wr : Bool) : Eff Tryz.prog 105 [.ptr 8 0, .ptr 7 0] (rdB p w e wr) (rdB p w e wr) (.bool (lateB p w)) := by
  have hok := rd_ok p h.ok w e wr
  have h1 := h.a.c1
  have h2 := h.a.c2
  have hw : p.a.cols - 1 = IntKind.i64.wrap (p.a.cols - 1) := (wri (by omega) (by omega)).symm
  refine Eff.of rfl rfl hok hok (Nat.le_refl _) (Sem.of_body tysOk md0 Tryz.func105 rfl rfl ?_)
  refine DrawP.intro tysOk mixed false ?_
  unfold lateB
  rw [hw]
  refine ⟨fun h1 => ?_, fun h1 => ?_⟩
  · have h1 : decide (w > 1) = true := h1
    repeat (first | refine BCase.yes rfl ?_ | refine BCase.no rfl ?_)
    refine ⟨_, (nAt p h.ok e).hereR [0, 1, 2, 3, 4, 5, 6] (hpOf (rdX w e wr)) 11 rfl rfl rfl, ?_⟩
    repeat (first | refine BCase.yes rfl ?_ | refine BCase.no rfl ?_)
    refine ⟨_, (pArea p h.ok).hereR [0, 1, 2, 3, 4, 5, 6] (hpOf (rdX w e wr)) 11 rfl rfl rfl, ?_⟩
    repeat (first | refine BCase.yes rfl ?_ | refine BCase.no rfl ?_)
    refine ⟨by kernel_rfl, ?_⟩
    rw [h1]
    exact ⟨rfl, Nat.le_of_ble_eq_true rfl, .inl rfl, .inl rfl, .inl rfl, .inl rfl, .inl rfl, .inl rfl, .inl rfl, .inl rfl, .inl rfl, .inl rfl, .inl rfl, trivial⟩
  · have h1 : decide (w > 1) = false := h1
    repeat (first | refine BCase.yes rfl ?_ | refine BCase.no rfl ?_)
    refine ⟨by kernel_rfl, ?_⟩
    rw [h1]
    exact ⟨rfl, Nat.le_of_ble_eq_true rfl, .inl rfl, .inl rfl, .inl rfl, .inl rfl, .inl rfl, .inl rfl, .inl rfl, .inl rfl, .inl rfl, .inl rfl, .inl rfl, trivial⟩
def step2 (p : Pg) (e : Int) (wr : Bool) : Pg := if p.c.wrap && wr then nextS p e else p
theorem step2_ok {p : Pg} (h : p.good) (e : Int) (wr : Bool) : (step2 p e wr).ok := by
  unfold step2
  split
  · exact (h.inv.next e trivial).ok
  · exact h.ok
theorem nReady2 (p : Pg) (h : p.good) (w e : Int) (wr : Bool) : Eff Tryz.prog 106 [.ptr 7 0, .ptr 9 0] (rdB p w e wr) (rdB (step2 p e wr) w e wr) (.tup []) := by
  have hnx := nNext p h e
  refine Eff.of rfl rfl (rd_ok p h.ok w e wr) (rd_ok _ (step2_ok h e wr) w e wr) (by unfold step2; split <;> exact Nat.le_refl _) (Sem.of_body tysOk md0 Tryz.func106 rfl rfl ?_)
  refine (pCursor p h.ok).here rfl (hpOf (rdX w e wr)) rfl ?_
  unfold step2
  cases hc : p.c.wrap with
  | true =>
    cases wr with
    | true =>
      refine BCase.yes hc ?_
      repeat (first | refine BCase.yes rfl ?_ | refine BCase.no rfl ?_)
      refine hnx.here (by unfold nextS; split <;> rfl) (hpOf (rdX w e true)) rfl ?_
      exact ⟨rfl, Nat.le_of_ble_eq_true rfl, .inl rfl, .inl rfl, .inl rfl, .inl rfl, .inl rfl, .inl rfl, .inl rfl, .inl rfl, .inl rfl, .inl rfl, .inl rfl, trivial⟩
    | false =>
      refine BCase.yes hc ?_
      repeat (first | refine BCase.yes rfl ?_ | refine BCase.no rfl ?_)
      exact ⟨rfl, Nat.le_of_ble_eq_true rfl, .inl rfl, .inl rfl, .inl rfl, .inl rfl, .inl rfl, .inl rfl, .inl rfl, .inl rfl, .inl rfl, .inl rfl, .inl rfl, trivial⟩
  | false =>
    refine BCase.no hc ?_
    repeat (first | refine BCase.yes rfl ?_ | refine BCase.no rfl ?_)
    exact ⟨rfl, Nat.le_of_ble_eq_true rfl, .inl rfl, .inl rfl, .inl rfl, .inl rfl, .inl rfl, .inl rfl, .inl rfl, .inl rfl, .inl rfl, .inl rfl, .inl rfl, trivial⟩
end Go.Cx
