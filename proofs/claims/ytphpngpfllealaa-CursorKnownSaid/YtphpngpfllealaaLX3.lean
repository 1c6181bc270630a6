/- What functions of this seat compute, each for every argument of the shapes that are named; no condition beside the stated ones. -/
import Derived.Test.YtphpngpfllealaaLX2
namespace Go.Cv
open Go.Proofs
set_option maxRecDepth 100000
theorem known_sem : Sem Try.prog 8 [] [] fun v _ => v = .bool true := (Fn.of_run tysOk mixed names 50 20 rfl rfl (by kernel_rfl) : Fn Try.prog 8 [] (.bool true)).run
end Go.Cv
