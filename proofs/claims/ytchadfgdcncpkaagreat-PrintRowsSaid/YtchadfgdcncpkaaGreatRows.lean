/-
  No cell of these rows narrows 'for every input' (looked for: loops, veiled, ifaces, maps, wideKeys, modest, calm, conditions, laid).
  DERIVED. THE GIVEN ROWS OF THIS SEAT. 3 by the template 'for every input the law returns true; each argument reads behind the call as it read before'; 0 by the template 'total and deterministic' (their statements: YtchadfgdcncpkaaGreatTotals.lean).
  GIVEN WITH THE SEED: the statements are not yours to turn. If you find one false, say at which input.
  Laid BY PROGRAM, IN A SANDBOX (cutbox-rows.mjs): the forced cells as the released guide's own fill.sh prints them over the translation c3f6af9ee151f925… (all of the seat's roots in one cut). By AI agents, Wed Nov 11 2026. No macro, syntax, notation, axiom, sorry.
-/
import Derived.Test.YtchadfgdcncpkaaGreatChecked
import GoSem.Claim
import GoSem.ClaimJoined
import GoSem.ClaimMapViews
import Derived.JoinedTies
import Derived.KernelRfl
namespace Go.Proofs.YtchadfgdcncpkaaGreat
/- THE CELL 'sum', in the pinned program and in every row, IS THE sha256 OF THE DUMP (.gsa) THAT YtchadfgdcncpkaaGreatProg.lean LOADS. Nothing in Lean hashes anything: it is a label: what it is worth is what the hold of that sum in a sandbox is worth. -/
noncomputable def Tryz.pinned : Pinned := { name := "ytchadfgdcncpkaagreat", sum := "c3f6af9ee151f925d3ff7adf33914c3b56115ce073b39e45a84c091b2c766f42", checked := Tryz.checked }
namespace Rows
def none {H : Type} : Left H := { results := [], args := [] }

/-- 'marqueelaw19.PrintRows': WHATEVER THE INPUT: true; the input reads as it did. -/
def printRowsSpec : ChangeSpec := { name := "printRows", fn := fun _ => fun
  | [d1, d2, d3] => { results := [.lit (.bool true)], args := [d1, d2, d3] }
  | _ => none }
def printRowsRow : OpenClaim := { program := "ytchadfgdcncpkaagreat", sum := "c3f6af9ee151f925d3ff7adf33914c3b56115ce073b39e45a84c091b2c766f42", func := "marquee/marqueelaw19.PrintRows", spec := "printRows", inPlace := ["internal/abi.NoEscape"], unfollowed := true, recurses := true, plainKeys := false, apart := false }
def PrintRowsSaid : Prop := printRowsRow.holds Tryz.pinned (OpenSpec.ofChange printRowsSpec)

/-- ITS FALSE NEIGHBOUR: 'it returns false'. Refute it at one input. -/
def printRowsWrong : ChangeSpec := { name := "printRows", fn := fun _ => fun
  | [d1, d2, d3] => { results := [.lit (.bool false)], args := [d1, d2, d3] }
  | _ => none }
def PrintRowsWrongFalsely : Prop := printRowsRow.holds Tryz.pinned (OpenSpec.ofChange printRowsWrong)

/-- 'marqueelaw19.PrintKnown': WHATEVER THE INPUT: true; the input reads as it did. -/
def printKnownSpec : ChangeSpec := { name := "printKnown", fn := fun _ => fun
  | [] => { results := [.lit (.bool true)], args := [] }
  | _ => none }
def printKnownRow : OpenClaim := { program := "ytchadfgdcncpkaagreat", sum := "c3f6af9ee151f925d3ff7adf33914c3b56115ce073b39e45a84c091b2c766f42", func := "marquee/marqueelaw19.PrintKnown", spec := "printKnown", inPlace := ["internal/abi.NoEscape"], unfollowed := true, recurses := true, plainKeys := false, apart := false }
def PrintKnownSaid : Prop := printKnownRow.holds Tryz.pinned (OpenSpec.ofChange printKnownSpec)

/-- ITS FALSE NEIGHBOUR: 'it returns false'. Refute it at one input. -/
def printKnownWrong : ChangeSpec := { name := "printKnown", fn := fun _ => fun
  | [] => { results := [.lit (.bool false)], args := [] }
  | _ => none }
def PrintKnownWrongFalsely : Prop := printKnownRow.holds Tryz.pinned (OpenSpec.ofChange printKnownWrong)

/-- 'marqueelaw19.PrintWhole': WHATEVER THE INPUT: true; the input reads as it did. -/
def printWholeSpec : ChangeSpec := { name := "printWhole", fn := fun _ => fun
  | [d1, d2] => { results := [.lit (.bool true)], args := [d1, d2] }
  | _ => none }
def printWholeRow : OpenClaim := { program := "ytchadfgdcncpkaagreat", sum := "c3f6af9ee151f925d3ff7adf33914c3b56115ce073b39e45a84c091b2c766f42", func := "marquee/marqueelaw19.PrintWhole", spec := "printWhole", inPlace := ["internal/abi.NoEscape"], unfollowed := true, recurses := true, plainKeys := false, apart := false }
def PrintWholeSaid : Prop := printWholeRow.holds Tryz.pinned (OpenSpec.ofChange printWholeSpec)

/-- ITS FALSE NEIGHBOUR: 'it returns false'. Refute it at one input. -/
def printWholeWrong : ChangeSpec := { name := "printWhole", fn := fun _ => fun
  | [d1, d2] => { results := [.lit (.bool false)], args := [d1, d2] }
  | _ => none }
def PrintWholeWrongFalsely : Prop := printWholeRow.holds Tryz.pinned (OpenSpec.ofChange printWholeWrong)

/- THE SECOND FORM. 'bulk': how many values and letters a reading holds, each counted each time it is reached (what is shared counts as often as it is met; a slice's spare places count too). A statement '..UptoSaid' is the law's where the arguments, and the package variables that the reading takes, are together of bulk at most 1048576: NARROWER than '..Said'. Prove '..Said' where nothing that the law and all that it calls make is longer than what came in: it says more and counts as full. Else prove '..UptoSaid'. A law counts once. -/
mutual
def uptoBulk {H : Type} : DataW H → Nat
  | .lit (.string bytes) => bytes.length + 1
  | .lit _ => 1
  | .nil => 1
  | .ptr d => uptoBulk d + 1
  | .slice elems spare => uptoBulkAll elems + uptoBulkAll spare + 1
  | .agg parts => uptoBulkAll parts + 1
  | .iface _ d => uptoBulk d + 1
  | .map entries => uptoBulkEntries entries + 1
  | .held _ => 1
def uptoBulkAll {H : Type} : List (DataW H) → Nat
  | [] => 0
  | d :: r => uptoBulk d + uptoBulkAll r
def uptoBulkEntries {H : Type} : List (Lit × DataW H) → Nat
  | [] => 0
  | x :: r => uptoBulkEntry x + uptoBulkEntries r
def uptoBulkEntry {H : Type} : Lit × DataW H → Nat
  | (.string bytes, d) => bytes.length + uptoBulk d + 1
  | (_, d) => uptoBulk d + 1
 end
def uptoSmall : (H : Type) → List (DataW H) → Bool := fun _ ds => decide (uptoBulkAll ds ≤ 1048576)
def OpenSpec.upto (s : _root_.Go.ChangeSpec) : _root_.Go.OpenSpec := { _root_.Go.OpenSpec.ofChange s with cond := some uptoSmall }

/-- 'marqueelaw19.PrintRows', WHERE WHAT IT READS IS OF BULK AT MOST 1048576: true; the input reads as it did. -/
def printRowsUptoRow : OpenClaim := { program := "ytchadfgdcncpkaagreat", sum := "c3f6af9ee151f925d3ff7adf33914c3b56115ce073b39e45a84c091b2c766f42", func := "marquee/marqueelaw19.PrintRows", spec := "printRows", inPlace := ["internal/abi.NoEscape"], unfollowed := true, recurses := true, plainKeys := false, apart := false, narrowed := true }
def PrintRowsUptoSaid : Prop := printRowsUptoRow.holds Tryz.pinned (OpenSpec.upto printRowsSpec)

/-- 'marqueelaw19.PrintKnown', WHERE WHAT IT READS IS OF BULK AT MOST 1048576: true; the input reads as it did. -/
def printKnownUptoRow : OpenClaim := { program := "ytchadfgdcncpkaagreat", sum := "c3f6af9ee151f925d3ff7adf33914c3b56115ce073b39e45a84c091b2c766f42", func := "marquee/marqueelaw19.PrintKnown", spec := "printKnown", inPlace := ["internal/abi.NoEscape"], unfollowed := true, recurses := true, plainKeys := false, apart := false, narrowed := true }
def PrintKnownUptoSaid : Prop := printKnownUptoRow.holds Tryz.pinned (OpenSpec.upto printKnownSpec)

/-- 'marqueelaw19.PrintWhole', WHERE WHAT IT READS IS OF BULK AT MOST 1048576: true; the input reads as it did. -/
def printWholeUptoRow : OpenClaim := { program := "ytchadfgdcncpkaagreat", sum := "c3f6af9ee151f925d3ff7adf33914c3b56115ce073b39e45a84c091b2c766f42", func := "marquee/marqueelaw19.PrintWhole", spec := "printWhole", inPlace := ["internal/abi.NoEscape"], unfollowed := true, recurses := true, plainKeys := false, apart := false, narrowed := true }
def PrintWholeUptoSaid : Prop := printWholeUptoRow.holds Tryz.pinned (OpenSpec.upto printWholeSpec)

end Rows
end Go.Proofs.YtchadfgdcncpkaaGreat
