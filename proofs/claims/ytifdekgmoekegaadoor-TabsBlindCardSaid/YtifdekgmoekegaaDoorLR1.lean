/- What functions of this seat compute, each for every argument of the shapes that are named; no condition beside the stated ones. -/
import Derived.Test.YtifdekgmoekegaaDoorLT11
import Derived.Test.YtifdekgmoekegaaDoorCards
import Derived.Test.YtifdekgmoekegaaDoorTie
import Derived.WalkKit
import Derived.ProofKit
import Derived.OpenShut
import Derived.Deep.DeepHandedRow
import Derived.Lib.LaidTab
namespace Go.Proofs.YtifdekgmoekegaaDoor
open Go.ChangeShapes Go.WideShapes Go.ChangeAt Go.RowKit Go.Cx
set_option maxRecDepth 100000
namespace rowKit
theorem own : ownKnob Tryd.prog.godebug = none := by kernel_rfl
theorem laidOut : laidOutB Tryd.prog = true := by kernel_rfl
theorem gTab : Tryd.prog.globalNamed "math/bits.deBruijn64tab" = some 0 := by kernel_rfl
theorem gTabType : (Tryd.prog.globals[0]?).map (·.type) = some 63 := by kernel_rfl
theorem cells63 : Tryd.prog.cellsOf 63 = 64 := by kernel_rfl
theorem cells5 : Tryd.prog.cellsOf 5 = 1 := by kernel_rfl
def tabL : List Int := [0, 1, 56, 2, 57, 49, 28, 3, 61, 58, 42, 50, 38, 29, 17, 4, 62, 47, 59, 36, 45, 43, 51, 22, 53, 39, 33, 30, 24, 18, 12, 5, 63, 55, 48, 27, 60, 41, 37, 16, 46, 35, 44, 21, 52, 32, 23, 11, 54, 26, 40, 15, 34, 20, 31, 10, 25, 14, 19, 9, 13, 8, 7, 6]
def laidL : List (String × DataW Unit) := [("math/bits.deBruijn64tab", Rows.laid_math_bits_deBruijn64tab)]
theorem table {W : World} (h : laidMet Tryd.prog laidL W) : Lib.TabIs Tryd.prog W "math/bits.deBruijn64tab" .u8 tabL :=
  Lib.tabIs_of_head (rest := []) gTab gTabType Tryd.underlying63 Tryd.underlying5 cells5 cells63 h
theorem globW {W : World} (h : laidMet Tryd.prog laidL W) : GlobW W := fun g cs hg => by
  match g, hg with
  | 0, hg =>
    have hcs : cs = tabL.map (V.int .u8) := by
      simp only [globTab, Option.some.injEq] at hg
      rw [← hg]; rfl
    have hlen : cs.length = 64 := by rw [hcs]; rfl
    refine .iptr _ _ _ _ (fun j => .int .u8 (tabL.getD j 0)) (fun j hj => ?_) (fun j hj => ?_)
    · rw [hlen] at hj
      rw [Nat.zero_add]
      exact phiW_cell ((table h).cell gTab j hj) rfl
    · have hj' : j < tabL.length := by rw [hlen] at hj; exact hj
      have : cs.getD j .undef = V.int .u8 (tabL.getD j 0) := by
        rw [hcs]
        simp [List.getD_eq_getElem?_getD, hj']
      rw [this]
      exact .int _ _ _
noncomputable def laidWorld (os : Os) : World :=
  { World.holding Tryd.prog os ⟨#[], #[], []⟩ with heap := (World.holding Tryd.prog os ⟨#[], #[], []⟩).heap.modify 0 fun
      | .cells _ t frozen => .cells (tabL.map fun z => Value.int .u8 z).toArray t frozen
      | o => o }
theorem wf_rng {k : IntKind} {n : Int} (h : (Lit.int k n).wf = true) : k.min ≤ n ∧ n ≤ k.max := by
  simpa [Lit.wf] using h
theorem i16s_of {v : V} (h : ShOk (.sl [.int .i16]) v) : ∃ xs : List Int, v = .psl 1 (xs.map fun c => [.int .i16 c]) .any ∧ xs.length ≤ maxLen ∧ ∀ x ∈ xs, -32768 ≤ x ∧ x < 32768 :=
  rows_of (f := fun c => [.int .i16 c]) (p := fun x => -32768 ≤ x ∧ x < 32768) (fun y hy hs => by
    match y, hy with
    | [a], _ =>
      have h0 := hs 0 (by simp)
      simp at h0
      match a, h0 with
      | _, .int _ n hn =>
        have a1 := wf_rng hn
        simp [IntKind.min, IntKind.max, IntKind.signed, IntKind.bits] at a1
        exact ⟨n, rfl, a1.1, by omega⟩) h
def csAct : List CS := [.int .u8, .bool, .sl [.int .i16], .int .i16]
theorem act_of {y : List V} (hy : y.length = 4) (hs : ∀ j, j < 4 → ShOk (csAct.getD j .bool) (y.getD j .undef)) : ∃ a : Ac, y = a.cs ∧ a.ok := by
  match y, hy with
  | [a, b, c, d], _ =>
    have h0 := hs 0 (by simp)
    have h1 := hs 1 (by simp)
    have h2 := hs 2 (by simp)
    have h3 := hs 3 (by simp)
    simp [csAct] at h0 h1 h2 h3
    obtain ⟨xs, rfl, hl, hx⟩ := i16s_of h2
    match a, b, d, h0, h1, h3 with
    | _, _, _, .int _ n hn, .bool q, .int _ m hm =>
      have a1 := wf_rng hn
      have a2 := wf_rng hm
      simp [IntKind.min, IntKind.max, IntKind.signed, IntKind.bits] at a1 a2
      exact ⟨⟨n, q, xs, m⟩, rfl, ⟨a1.1, by show n < 256; omega, a2.1, by show m < 32768; omega, hx, hl⟩⟩
theorem acts_of {v : V} (h : ShOk (.sl csAct) v) : ∃ xs : List Ac, v = .psl 4 (actsV xs) .any ∧ xs.length ≤ maxLen ∧ ∀ x ∈ xs, x.ok :=
  rows_of (es := csAct) (f := Ac.cs) (p := Ac.ok) (fun _ hy hs => act_of hy hs) h
end rowKit
end Go.Proofs.YtifdekgmoekegaaDoor
