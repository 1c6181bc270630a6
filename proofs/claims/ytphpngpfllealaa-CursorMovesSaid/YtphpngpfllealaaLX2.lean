/- What functions of this seat compute, each for every argument of the shapes that are named; no condition beside the stated ones. -/
import Derived.Test.YtphpngpfllealaaLX1
namespace Go.Cv
open Go.Proofs
set_option maxRecDepth 100000
theorem works_fn : Fn Try.prog 23 [] (.bool true) := Fn.of_run tysOk mixed names 50 20 rfl rfl (by kernel_rfl)
end Go.Cv
