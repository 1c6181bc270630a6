/-
  No cell of these rows narrows 'for every input' (looked for: loops, veiled, ifaces, maps, wideKeys, modest, calm, conditions, laid).
  DERIVED. THE GIVEN ROWS OF THIS SEAT. 5 by the template 'for every input the law returns true; each argument reads behind the call as it read before'; 0 by the template 'total and deterministic' (their statements: YtadgjigabechnaaTotals.lean).
  GIVEN WITH THE SEED: the statements are not yours to turn. If you find one false, say at which input.
  Laid BY PROGRAM, IN A SANDBOX (cutbox-rows.mjs): the forced cells as the released guide's own fill.sh prints them over the translation 36ce0199941c1549… (all of the seat's roots in one cut). By AI agents, Wed Nov 11 2026. No macro, syntax, notation, axiom, sorry.
-/
import Derived.Test.YtadgjigabechnaaChecked
import GoSem.Claim
import GoSem.ClaimJoined
import GoSem.ClaimMapViews
import Derived.JoinedTies
import Derived.KernelRfl
namespace Go.Proofs.Ytadgjigabechnaa
/- THE CELL 'sum', in the pinned program and in every row, IS THE sha256 OF THE DUMP (.gsa) THAT YtadgjigabechnaaProg.lean LOADS. Nothing in Lean hashes anything: it is a label: what it is worth is what the hold of that sum in a sandbox is worth. -/
noncomputable def Try.pinned : Pinned := { name := "ytadgjigabechnaa", sum := "36ce0199941c1549e5ae16237d8ee8db634282eb2cdef0f321200118ef5625c0", checked := Try.checked }
namespace Rows
def none {H : Type} : Left H := { results := [], args := [] }

/-- 'marqueelaw15.ModeSoft': WHATEVER THE INPUT: true; the input reads as it did. -/
def modeSoftSpec : ChangeSpec := { name := "modeSoft", fn := fun _ => fun
  | [d1, d2] => { results := [.lit (.bool true)], args := [d1, d2] }
  | _ => none }
def modeSoftRow : OpenClaim := { program := "ytadgjigabechnaa", sum := "36ce0199941c1549e5ae16237d8ee8db634282eb2cdef0f321200118ef5625c0", func := "marquee/marqueelaw15.ModeSoft", spec := "modeSoft", unfollowed := true, recurses := true, plainKeys := false, apart := false }
def ModeSoftSaid : Prop := modeSoftRow.holds Try.pinned (OpenSpec.ofChange modeSoftSpec)

/-- ITS FALSE NEIGHBOUR: 'it returns false'. Refute it at one input. -/
def modeSoftWrong : ChangeSpec := { name := "modeSoft", fn := fun _ => fun
  | [d1, d2] => { results := [.lit (.bool false)], args := [d1, d2] }
  | _ => none }
def ModeSoftWrongFalsely : Prop := modeSoftRow.holds Try.pinned (OpenSpec.ofChange modeSoftWrong)

/-- 'marqueelaw15.ModeAll': WHATEVER THE INPUT: true; the input reads as it did. -/
def modeAllSpec : ChangeSpec := { name := "modeAll", fn := fun _ => fun
  | [d] => { results := [.lit (.bool true)], args := [d] }
  | _ => none }
def modeAllRow : OpenClaim := { program := "ytadgjigabechnaa", sum := "36ce0199941c1549e5ae16237d8ee8db634282eb2cdef0f321200118ef5625c0", func := "marquee/marqueelaw15.ModeAll", spec := "modeAll", unfollowed := true, recurses := true, plainKeys := false, apart := false }
def ModeAllSaid : Prop := modeAllRow.holds Try.pinned (OpenSpec.ofChange modeAllSpec)

/-- ITS FALSE NEIGHBOUR: 'it returns false'. Refute it at one input. -/
def modeAllWrong : ChangeSpec := { name := "modeAll", fn := fun _ => fun
  | [d] => { results := [.lit (.bool false)], args := [d] }
  | _ => none }
def ModeAllWrongFalsely : Prop := modeAllRow.holds Try.pinned (OpenSpec.ofChange modeAllWrong)

/-- 'marqueelaw15.ModePlays': WHATEVER THE INPUT: true; the input reads as it did. -/
def modePlaysSpec : ChangeSpec := { name := "modePlays", fn := fun _ => fun
  | [d1, d2] => { results := [.lit (.bool true)], args := [d1, d2] }
  | _ => none }
def modePlaysRow : OpenClaim := { program := "ytadgjigabechnaa", sum := "36ce0199941c1549e5ae16237d8ee8db634282eb2cdef0f321200118ef5625c0", func := "marquee/marqueelaw15.ModePlays", spec := "modePlays", unfollowed := true, recurses := true, plainKeys := false, apart := false }
def ModePlaysSaid : Prop := modePlaysRow.holds Try.pinned (OpenSpec.ofChange modePlaysSpec)

/-- ITS FALSE NEIGHBOUR: 'it returns false'. Refute it at one input. -/
def modePlaysWrong : ChangeSpec := { name := "modePlays", fn := fun _ => fun
  | [d1, d2] => { results := [.lit (.bool false)], args := [d1, d2] }
  | _ => none }
def ModePlaysWrongFalsely : Prop := modePlaysRow.holds Try.pinned (OpenSpec.ofChange modePlaysWrong)

/-- 'marqueelaw15.ModeLast': WHATEVER THE INPUT: true; the input reads as it did. -/
def modeLastSpec : ChangeSpec := { name := "modeLast", fn := fun _ => fun
  | [d1, d2, d3] => { results := [.lit (.bool true)], args := [d1, d2, d3] }
  | _ => none }
def modeLastRow : OpenClaim := { program := "ytadgjigabechnaa", sum := "36ce0199941c1549e5ae16237d8ee8db634282eb2cdef0f321200118ef5625c0", func := "marquee/marqueelaw15.ModeLast", spec := "modeLast", unfollowed := true, recurses := true, plainKeys := false, apart := false }
def ModeLastSaid : Prop := modeLastRow.holds Try.pinned (OpenSpec.ofChange modeLastSpec)

/-- ITS FALSE NEIGHBOUR: 'it returns false'. Refute it at one input. -/
def modeLastWrong : ChangeSpec := { name := "modeLast", fn := fun _ => fun
  | [d1, d2, d3] => { results := [.lit (.bool false)], args := [d1, d2, d3] }
  | _ => none }
def ModeLastWrongFalsely : Prop := modeLastRow.holds Try.pinned (OpenSpec.ofChange modeLastWrong)

/-- 'marqueelaw15.ModeKnown': WHATEVER THE INPUT: true; the input reads as it did. -/
def modeKnownSpec : ChangeSpec := { name := "modeKnown", fn := fun _ => fun
  | [] => { results := [.lit (.bool true)], args := [] }
  | _ => none }
def modeKnownRow : OpenClaim := { program := "ytadgjigabechnaa", sum := "36ce0199941c1549e5ae16237d8ee8db634282eb2cdef0f321200118ef5625c0", func := "marquee/marqueelaw15.ModeKnown", spec := "modeKnown", unfollowed := true, recurses := true, plainKeys := false, apart := false }
def ModeKnownSaid : Prop := modeKnownRow.holds Try.pinned (OpenSpec.ofChange modeKnownSpec)

/-- ITS FALSE NEIGHBOUR: 'it returns false'. Refute it at one input. -/
def modeKnownWrong : ChangeSpec := { name := "modeKnown", fn := fun _ => fun
  | [] => { results := [.lit (.bool false)], args := [] }
  | _ => none }
def ModeKnownWrongFalsely : Prop := modeKnownRow.holds Try.pinned (OpenSpec.ofChange modeKnownWrong)

/- THE SECOND FORM. 'bulk': how many values and letters a reading holds, each counted each time it is reached (what is shared counts as often as it is met; a slice's spare places count too). A statement '..UptoSaid' is the law's where the arguments, and the package variables that the reading takes, are together of bulk at most 1048576: NARROWER than '..Said'. Prove '..Said' where nothing that the law and all that it calls make is longer than what came in: it says more and counts as full. Else prove '..UptoSaid'. A law counts once. -/
mutual
def uptoBulk {H : Type} : DataW H → Nat
  | .lit (.string bytes) => bytes.length + 1
  | .lit _ => 1
  | .nil => 1
  | .ptr d => uptoBulk d + 1
  | .slice elems spare => uptoBulkAll elems + uptoBulkAll spare + 1
  | .agg parts => uptoBulkAll parts + 1
  | .iface _ d => uptoBulk d + 1
  | .map entries => uptoBulkEntries entries + 1
  | .held _ => 1
def uptoBulkAll {H : Type} : List (DataW H) → Nat
  | [] => 0
  | d :: r => uptoBulk d + uptoBulkAll r
def uptoBulkEntries {H : Type} : List (Lit × DataW H) → Nat
  | [] => 0
  | x :: r => uptoBulkEntry x + uptoBulkEntries r
def uptoBulkEntry {H : Type} : Lit × DataW H → Nat
  | (.string bytes, d) => bytes.length + uptoBulk d + 1
  | (_, d) => uptoBulk d + 1
 end
def uptoSmall : (H : Type) → List (DataW H) → Bool := fun _ ds => decide (uptoBulkAll ds ≤ 1048576)
def OpenSpec.upto (s : _root_.Go.ChangeSpec) : _root_.Go.OpenSpec := { _root_.Go.OpenSpec.ofChange s with cond := some uptoSmall }

/-- 'marqueelaw15.ModeSoft', WHERE WHAT IT READS IS OF BULK AT MOST 1048576: true; the input reads as it did. -/
def modeSoftUptoRow : OpenClaim := { program := "ytadgjigabechnaa", sum := "36ce0199941c1549e5ae16237d8ee8db634282eb2cdef0f321200118ef5625c0", func := "marquee/marqueelaw15.ModeSoft", spec := "modeSoft", unfollowed := true, recurses := true, plainKeys := false, apart := false, narrowed := true }
def ModeSoftUptoSaid : Prop := modeSoftUptoRow.holds Try.pinned (OpenSpec.upto modeSoftSpec)

/-- 'marqueelaw15.ModeAll', WHERE WHAT IT READS IS OF BULK AT MOST 1048576: true; the input reads as it did. -/
def modeAllUptoRow : OpenClaim := { program := "ytadgjigabechnaa", sum := "36ce0199941c1549e5ae16237d8ee8db634282eb2cdef0f321200118ef5625c0", func := "marquee/marqueelaw15.ModeAll", spec := "modeAll", unfollowed := true, recurses := true, plainKeys := false, apart := false, narrowed := true }
def ModeAllUptoSaid : Prop := modeAllUptoRow.holds Try.pinned (OpenSpec.upto modeAllSpec)

/-- 'marqueelaw15.ModePlays', WHERE WHAT IT READS IS OF BULK AT MOST 1048576: true; the input reads as it did. -/
def modePlaysUptoRow : OpenClaim := { program := "ytadgjigabechnaa", sum := "36ce0199941c1549e5ae16237d8ee8db634282eb2cdef0f321200118ef5625c0", func := "marquee/marqueelaw15.ModePlays", spec := "modePlays", unfollowed := true, recurses := true, plainKeys := false, apart := false, narrowed := true }
def ModePlaysUptoSaid : Prop := modePlaysUptoRow.holds Try.pinned (OpenSpec.upto modePlaysSpec)

/-- 'marqueelaw15.ModeLast', WHERE WHAT IT READS IS OF BULK AT MOST 1048576: true; the input reads as it did. -/
def modeLastUptoRow : OpenClaim := { program := "ytadgjigabechnaa", sum := "36ce0199941c1549e5ae16237d8ee8db634282eb2cdef0f321200118ef5625c0", func := "marquee/marqueelaw15.ModeLast", spec := "modeLast", unfollowed := true, recurses := true, plainKeys := false, apart := false, narrowed := true }
def ModeLastUptoSaid : Prop := modeLastUptoRow.holds Try.pinned (OpenSpec.upto modeLastSpec)

/-- 'marqueelaw15.ModeKnown', WHERE WHAT IT READS IS OF BULK AT MOST 1048576: true; the input reads as it did. -/
def modeKnownUptoRow : OpenClaim := { program := "ytadgjigabechnaa", sum := "36ce0199941c1549e5ae16237d8ee8db634282eb2cdef0f321200118ef5625c0", func := "marquee/marqueelaw15.ModeKnown", spec := "modeKnown", unfollowed := true, recurses := true, plainKeys := false, apart := false, narrowed := true }
def ModeKnownUptoSaid : Prop := modeKnownUptoRow.holds Try.pinned (OpenSpec.upto modeKnownSpec)

end Rows
end Go.Proofs.Ytadgjigabechnaa
