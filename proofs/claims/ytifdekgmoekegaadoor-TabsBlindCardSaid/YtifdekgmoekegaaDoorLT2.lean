/- What functions of this seat compute, each for every argument of the shapes that are named; no condition beside the stated ones. -/
import Derived.Test.YtifdekgmoekegaaDoorLT1
namespace Go.Cx
open Go.Proofs
theorem works : Fn Tryd.prog 8 [] (.bool true) := Fn.of_val fOk (noNE_ok _) tysOk mixed allMut 600 20 rfl rfl (by kernel_rfl)
end Go.Cx
