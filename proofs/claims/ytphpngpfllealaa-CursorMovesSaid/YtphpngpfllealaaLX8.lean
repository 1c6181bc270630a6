/- What functions of this seat compute, each for every argument of the shapes that are named; no condition beside the stated ones. -/
import Derived.Test.YtphpngpfllealaaLX6
namespace Go.Cv
open Go.Proofs
set_option maxRecDepth 100000
set_option maxHeartbeats 4000000

def tails : Code → Nat → Code
  | c, 0 => c
  | .seq _ c, n + 1 => tails c n
  | c, _ + 1 => c
noncomputable def code5 : Code := match Try.f5.body with | some c => c | none => .skip
def stB (s : St) : Option Blk := some (.cells [.int .i64 s.a.rows, .int .i64 s.a.cols, .int .i64 s.a.top, .int .i64 s.a.bottom, .bool s.a.org, .int .u8 s.a.base, .int .i64 s.c.row, .int .i64 s.c.col, .bool s.c.wrap, .int .u8 s.c.lab])

/-! ### What names say -/
theorem names_row {a : Ar} (ha : a.ok) (p : Int) : reportS a (gotoS a p 1) = (max 1 (min p (if a.org = true then a.bottom - a.top + 1 else a.rows)), 1) := by
  obtain ⟨h1, h2, h3, h4, h5, h6, h7, h8, h9⟩ := ha
  unfold reportS gotoS rowS wi
  split
  · refine Prod.ext ?_ ?_
    · simp only; omega
    · simp only; omega
  · refine Prod.ext ?_ ?_
    · simp only; omega
    · simp only; omega
def rowsS (a : Ar) : Int := if a.org = true then a.bottom - a.top + 1 else a.rows
theorem rep_row {a : Ar} (ha : a.ok) (p k : Int) : (reportS a (gotoS a p k)).1 = max 1 (min p (rowsS a)) := by
  obtain ⟨h1, h2, h3, h4, h5, h6, h7, h8, h9⟩ := ha
  unfold reportS gotoS rowS wi rowsS
  split <;> simp only <;> omega
theorem rep_col {a : Ar} (ha : a.ok) (p k : Int) : (reportS a (gotoS a p k)).2 = max 1 (min k a.cols) := by
  obtain ⟨h1, h2, h3, h4, h5, h6, h7, h8, h9⟩ := ha
  unfold reportS gotoS wi
  simp only; omega
theorem row_in {a : Ar} (ha : a.ok) (ho : a.org = true) (p : Int) : a.top ≤ rowS a p ∧ rowS a p ≤ a.bottom := by
  obtain ⟨h1, h2, h3, h4, h5, h6, h7, h8, h9⟩ := ha
  unfold rowS wi
  rw [if_pos ho]
  omega
theorem row_again {a : Ar} (ha : a.ok) (p : Int) : rowS a (max 1 (min p (rowsS a))) = rowS a p := by
  obtain ⟨h1, h2, h3, h4, h5, h6, h7, h8, h9⟩ := ha
  unfold rowS wi rowsS
  split <;> omega
theorem col_again {a : Ar} (ha : a.ok) (k : Int) : wi (max 1 (min k a.cols)) 1 a.cols = wi k 1 a.cols := by
  have := ha.c1
  unfold wi
  omega
theorem row_low {a : Ar} (ha : a.ok) : rowS a (-5) = rowS a 1 := by
  obtain ⟨h1, h2, h3, h4, h5, h6, h7, h8, h9⟩ := ha
  unfold rowS wi
  split <;> omega

def envN (i5 i7 : Nat) : List V := .undef :: .undef :: .undef :: .undef :: .undef :: .ptr i5 0 :: .undef :: .ptr i7 0 :: List.replicate 148 .undef
theorem names_tail (s : St) (hs : right s) (p q : Int) : Wp Try.prog (tabOf tys) (tails code5 4) (envN 1 2) [none, some (.cells [.int .u8 p, .int .u8 q]), stB s] fun x env' h' => match x with | .exit _ => False | _ => retP (tabOf tys) Try.f5.results.toList env' h' fun v _ => v = .bool true := by
  have ha := hs.a
  obtain ⟨h1, h2, h3, h4, h5, h6, h7, h8, h9⟩ := hs.a
  have hc := hs.c
  have eR : IntKind.i64.wrap (IntKind.i64.wrap (s.a.bottom - s.a.top) + 1) = s.a.bottom - s.a.top + 1 := by rw [wr64 (n := s.a.bottom - s.a.top) (by omega) (by omega)]; exact wr64 (by omega) (by omega)
  have mx : ∀ x R : Int, (if (if R < x then R else x) > 1 then (if R < x then R else x) else 1) = max 1 (min x R) := fun x R => by split <;> split <;> omega
  have cself : ∀ c : Cu, ((c.row == c.row && (c.col == c.col && (c.wrap == c.wrap && (c.lab == c.lab && true))))) = true := fun c => by simp
  refine Wp.of tysOk ?_
  refine ⟨fun ho => ?_, fun ho => ?_⟩
  · refine DrawP.intro tysOk mixed ?_
    refine ⟨by decide, by decide, ?_⟩
    refine ⟨by kernel_rfl, ?_⟩
    refine (goto_fn s.a ha _ _).sem _ ?_
    refine (report_fn s.a ha _ (goto_inn ha _ _)).sem _ ?_
    generalize IntKind.i64.wrap p = P
    generalize IntKind.i64.wrap q = Q
    rw [eR]
    have hx : (reportS s.a (gotoS s.a P Q)).1 = (if (if (s.a.bottom - s.a.top + 1) < P then (s.a.bottom - s.a.top + 1) else P) > 1 then (if (s.a.bottom - s.a.top + 1) < P then (s.a.bottom - s.a.top + 1) else P) else 1) := by rw [mx, rep_row ha]; unfold rowsS; rw [if_pos ho]
    have hy : (reportS s.a (gotoS s.a P Q)).2 = (if (if s.a.cols < Q then s.a.cols else Q) > 1 then (if s.a.cols < Q then s.a.cols else Q) else 1) := by rw [mx, rep_col ha]
    refine BCase.no (by rw [hx]; exact bne_self_eq_false _) ?_
    repeat (first | refine BCase.yes rfl ?_ | refine BCase.no rfl ?_)
    refine BCase.no (by rw [hy]; exact bne_self_eq_false _) ?_
    repeat (first | refine BCase.yes rfl ?_ | refine BCase.no rfl ?_)
    have hin := row_in ha ho P
    refine BCase.yes ho ?_
    repeat (first | refine BCase.yes rfl ?_ | refine BCase.no rfl ?_)
    refine BCase.no (decide_eq_false (by simp only; omega)) ?_
    repeat (first | refine BCase.yes rfl ?_ | refine BCase.no rfl ?_)
    refine BCase.no (decide_eq_false (by simp only; omega)) ?_
    repeat (first | refine BCase.yes rfl ?_ | refine BCase.no rfl ?_)
    refine DrawP.intro tysOk mixed ?_
    refine ⟨_, line_fn s.a ha s.c P, ?_⟩
    refine ⟨_, column_fn s.a ha (lineS s.a s.c P) Q, ?_⟩
    refine ⟨by kernel_rfl, ?_⟩
    refine DrawP.intro tysOk mixed ?_
    refine BCase.yes (beq_self_eq_true _) ?_
    repeat (first | refine BCase.yes rfl ?_ | refine BCase.no rfl ?_)
    refine BCase.yes (beq_self_eq_true _) ?_
    repeat (first | refine BCase.yes rfl ?_ | refine BCase.no rfl ?_)
    refine BCase.yes (beq_self_eq_true _) ?_
    repeat (first | refine BCase.yes rfl ?_ | refine BCase.no rfl ?_)
    refine ⟨_, goto_fn s.a ha _ _, ?_⟩
    have ea : rowS s.a (reportS s.a (gotoS s.a P Q)).1 = rowS s.a P := by rw [rep_row ha, row_again ha]
    have eb : wi (reportS s.a (gotoS s.a P Q)).2 1 s.a.cols = wi Q 1 s.a.cols := by rw [rep_col ha, col_again ha]
    repeat (first | refine BCase.yes rfl ?_ | refine BCase.no rfl ?_)
    refine BCase.yes (by simp [ea, eb]) ?_
    repeat (first | refine BCase.yes rfl ?_ | refine BCase.no rfl ?_)
    refine ⟨_, home_fn s.a ha, ?_⟩
    repeat (first | refine BCase.yes rfl ?_ | refine BCase.no rfl ?_)
    refine ⟨_, goto_fn s.a ha _ _, ?_⟩
    repeat (first | refine BCase.yes rfl ?_ | refine BCase.no rfl ?_)
    refine BCase.yes (by simp [gotoS]) ?_
    repeat (first | refine BCase.yes rfl ?_ | refine BCase.no rfl ?_)
    refine ⟨_, goto_fn s.a ha _ _, ?_⟩
    repeat (first | refine BCase.yes rfl ?_ | refine BCase.no rfl ?_)
    refine ⟨_, home_fn s.a ha, ?_⟩
    repeat (first | refine BCase.yes rfl ?_ | refine BCase.no rfl ?_)
    refine ⟨by kernel_rfl, ?_⟩
    show V.bool (rowS s.a (-5) == rowS s.a 1 && (wi (-5) 1 s.a.cols - 1 == wi 1 1 s.a.cols - 1 && (false == false && (s.a.base == s.a.base && true)))) = V.bool true
    have ec : wi (-5) 1 s.a.cols = wi 1 1 s.a.cols := by unfold wi; omega
    simp [row_low ha, ec]
  · refine DrawP.intro tysOk mixed ?_
    refine ⟨by decide, by decide, ?_⟩
    refine ⟨by kernel_rfl, ?_⟩
    refine (goto_fn s.a ha _ _).sem _ ?_
    refine (report_fn s.a ha _ (goto_inn ha _ _)).sem _ ?_
    generalize IntKind.i64.wrap p = P
    generalize IntKind.i64.wrap q = Q
    have hx : (reportS s.a (gotoS s.a P Q)).1 = (if (if s.a.rows < P then s.a.rows else P) > 1 then (if s.a.rows < P then s.a.rows else P) else 1) := by rw [mx, rep_row ha]; unfold rowsS; rw [if_neg (by rw [ho]; simp)]
    have hy : (reportS s.a (gotoS s.a P Q)).2 = (if (if s.a.cols < Q then s.a.cols else Q) > 1 then (if s.a.cols < Q then s.a.cols else Q) else 1) := by rw [mx, rep_col ha]
    refine BCase.no (by rw [hx]; exact bne_self_eq_false _) ?_
    repeat (first | refine BCase.yes rfl ?_ | refine BCase.no rfl ?_)
    refine BCase.no (by rw [hy]; exact bne_self_eq_false _) ?_
    repeat (first | refine BCase.yes rfl ?_ | refine BCase.no rfl ?_)
    refine BCase.no ho ?_
    repeat (first | refine BCase.yes rfl ?_ | refine BCase.no rfl ?_)
    refine DrawP.intro tysOk mixed ?_
    refine ⟨_, line_fn s.a ha s.c P, ?_⟩
    refine ⟨_, column_fn s.a ha (lineS s.a s.c P) Q, ?_⟩
    refine ⟨by kernel_rfl, ?_⟩
    refine DrawP.intro tysOk mixed ?_
    refine BCase.yes (beq_self_eq_true _) ?_
    repeat (first | refine BCase.yes rfl ?_ | refine BCase.no rfl ?_)
    refine BCase.yes (beq_self_eq_true _) ?_
    repeat (first | refine BCase.yes rfl ?_ | refine BCase.no rfl ?_)
    refine BCase.yes (beq_self_eq_true _) ?_
    repeat (first | refine BCase.yes rfl ?_ | refine BCase.no rfl ?_)
    refine ⟨_, goto_fn s.a ha _ _, ?_⟩
    have ea : rowS s.a (reportS s.a (gotoS s.a P Q)).1 = rowS s.a P := by rw [rep_row ha, row_again ha]
    have eb : wi (reportS s.a (gotoS s.a P Q)).2 1 s.a.cols = wi Q 1 s.a.cols := by rw [rep_col ha, col_again ha]
    repeat (first | refine BCase.yes rfl ?_ | refine BCase.no rfl ?_)
    refine BCase.yes (by simp [ea, eb]) ?_
    repeat (first | refine BCase.yes rfl ?_ | refine BCase.no rfl ?_)
    refine ⟨_, home_fn s.a ha, ?_⟩
    repeat (first | refine BCase.yes rfl ?_ | refine BCase.no rfl ?_)
    refine ⟨_, goto_fn s.a ha _ _, ?_⟩
    repeat (first | refine BCase.yes rfl ?_ | refine BCase.no rfl ?_)
    refine BCase.yes (by simp [gotoS]) ?_
    repeat (first | refine BCase.yes rfl ?_ | refine BCase.no rfl ?_)
    refine ⟨_, goto_fn s.a ha _ _, ?_⟩
    repeat (first | refine BCase.yes rfl ?_ | refine BCase.no rfl ?_)
    refine ⟨_, home_fn s.a ha, ?_⟩
    repeat (first | refine BCase.yes rfl ?_ | refine BCase.no rfl ?_)
    refine ⟨by kernel_rfl, ?_⟩
    show V.bool (rowS s.a (-5) == rowS s.a 1 && (wi (-5) 1 s.a.cols - 1 == wi 1 1 s.a.cols - 1 && (false == false && (s.a.base == s.a.base && true)))) = V.bool true
    have ec : wi (-5) 1 s.a.cols = wi 1 1 s.a.cols := by unfold wi; omega
    simp [row_low ha, ec]

theorem names_sem (p q : Int) (hp : 0 ≤ p ∧ p ≤ 65535) (hq : 0 ≤ q ∧ q ≤ 65535) (u v : Int) (xs : List Ac) (hx : ∀ x ∈ xs, x.ok) : Sem Try.prog 5 [.agg [.int .u16 p, .int .u16 q], .psl 4 (xs.map Ac.l) .any, .agg [.int .u8 u, .int .u8 v]] [] fun v _ => v = .bool true := by
  refine Sem.of_Wp tysOk Try.func5 rfl rfl ?_
  refine Wp.seq (Wp.of tysOk ?_)
  conv => whnf
  refine Wp.seq (Wp.seq (Wp.of tysOk ?_))
  refine works_fn.sem _ ?_
  conv => whnf
  refine Wp.cond rfl (fun h => by cases h) (fun _ => ?_)
  refine Wp.of tysOk ?_
  conv => whnf
  refine Wp.seq (Wp.of tysOk ?_)
  refine (begun_fn p q hp hq false).sem _ ?_
  have hbeg : right (begS (p % 40) (q % 40) (if false = true then 1 else 0)) := beg_right _ _ _ (by split <;> omega) (by split <;> omega)
  generalize begS (p % 40) (q % 40) (if false = true then 1 else 0) = s0 at hbeg ⊢
  conv => whnf
  refine Wp.seq (Wp.seq (Wp.of tysOk ?_))
  conv => whnf
  refine Wp.block ?_
  refine Wp.loop (fun k env h => ∃ (i : Nat) (s : St), i + k = 20 ∧ right s ∧ h = [none, some (.cells [.int .u8 u, .int .u8 v]), stB s] ∧ env = .undef :: .psl 4 (xs.map Ac.l) .any :: .undef :: .undef :: .undef :: .ptr 1 0 :: .undef :: .ptr 2 0 :: .int .i64 i :: List.replicate 147 .undef) 20 ?_ ?_
  · refine ⟨_, _, .same (forgT_of _ _ ?_) ?_, 0, s0, by omega, hbeg, rfl, rfl⟩
    · repeat (first | exact trivial | refine ⟨.inl rfl, ?_⟩ | refine ⟨.inr rfl, ?_⟩)
    · exact ⟨.inr rfl, .inl rfl, .inl rfl, trivial⟩
  · rintro k env h ⟨i, s, hik, hs, rfl, rfl⟩
    refine Wp.of tysOk ?_
    have hlen : (xs.map Ac.l).length = xs.length := List.length_map _
    refine ⟨fun h1 => ?_, fun h1 => ?_⟩
    · have hi : i < xs.length := by simpa using h1
      refine BCase.yes rfl ?_
      refine ⟨fun h2 => ?_, fun h2 => ?_⟩
      · have h2' : i < 20 := by
          have h3 : (i : Int) < 20 := by simpa using h2
          omega
        have hxi := hx _ (List.getElem_mem hi)
        refine DrawP.intro tysOk mixed ?_
        refine ⟨Ac.l xs[i], ⟨by omega, by simp [hi]⟩, ?_⟩
        refine ⟨_, does_fn xs[i] hxi s hs, ?_⟩
        refine ⟨by kernel_rfl, ?_⟩
        refine ⟨k - 1, _, _, by omega, .of_forgE ?_, i + 1, _, by omega, does_right (x := xs[i]) hs, rfl, rfl⟩
        rw [show ((i + 1 : Nat) : Int) = IntKind.i64.wrap ((i : Int) + 1) from (wr64 (by omega) (by omega)).symm]
        repeat (first | exact trivial | refine ⟨.inl rfl, ?_⟩ | refine ⟨.inr rfl, ?_⟩)
      · conv => whnf
        refine Wp.weak ?_ (names_tail s hs u v)
        repeat (first | exact trivial | refine ⟨.inl rfl, ?_⟩ | refine ⟨.inr rfl, ?_⟩)
    · refine BCase.no rfl ?_
      refine BCase.no rfl ?_
      conv => whnf
      refine Wp.weak ?_ (names_tail s hs u v)
      repeat (first | exact trivial | refine ⟨.inl rfl, ?_⟩ | refine ⟨.inr rfl, ?_⟩)
end Go.Cv
