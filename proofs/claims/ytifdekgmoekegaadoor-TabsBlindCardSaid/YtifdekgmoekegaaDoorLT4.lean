/- What functions of this seat compute, each for every argument of the shapes that are named; no condition beside the stated ones. -/
import Derived.Test.YtifdekgmoekegaaDoorLT2
import Derived.Test.YtifdekgmoekegaaDoorCx18
import Derived.Laws.BitsLemmas
namespace Go.Cx
open Go.Proofs
set_option maxRecDepth 100000
set_option maxHeartbeats 4000000

/-! ### Tab stops: bits, by columns -/
structure Tb where
  w : Nat → Nat
  cols : Int
  lab : Int
  base : Int
def Tb.cs (t : Tb) : List V := [.int .u64 (t.w 0 : Nat), .int .u64 (t.w 1 : Nat), .int .u64 (t.w 2 : Nat), .int .u64 (t.w 3 : Nat), .int .u64 (t.w 4 : Nat), .int .u64 (t.w 5 : Nat), .int .u64 (t.w 6 : Nat), .int .u64 (t.w 7 : Nat), .int .i64 t.cols, .int .u8 t.lab, .int .u8 t.base]
def Tb.v (t : Tb) : V := .agg t.cs
def upd (w : Nat → Nat) (i x : Nat) : Nat → Nat := fun j => if j = i then x else w j
def md0 : Nat → Bool := fun _ => false
noncomputable abbrev TT := tysT.get none
noncomputable def code24 : Code := match Tryd.f24.body with | some c => c | none => .skip
def tails : Code → Nat → Code
  | c, 0 => c
  | .seq _ c, n + 1 => tails c n
  | c, _ + 1 => c

end Go.Cx
