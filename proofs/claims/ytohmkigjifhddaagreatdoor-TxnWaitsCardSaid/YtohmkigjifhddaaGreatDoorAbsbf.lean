/- A part of a proof about Go functions of this program: an evaluator with a memory of its own, and the proof that what it finds the model finds (WR24, WR25, WR26, WR27). No conditions beyond those that each theorem names. -/
import Derived.Test.YtohmkigjifhddaaGreatDoorAbsay
set_option linter.all false
set_option maxRecDepth 100000
set_option autoImplicit false
set_option linter.all false
namespace Go.Abs
theorem w24_ran : ran (envX (lookR [])) w24 = true := by decide +kernel
end Go.Abs

set_option maxRecDepth 100000
set_option autoImplicit false
set_option linter.all false
namespace Go.Abs
theorem w25_ran : ran (envX (lookR [w23, w24])) w25 = true := by decide +kernel
end Go.Abs

set_option maxRecDepth 100000
set_option autoImplicit false
set_option linter.all false
namespace Go.Abs
theorem w26_ran : ran (envX (lookR [w25, w24])) w26 = true := by decide +kernel
end Go.Abs

set_option maxRecDepth 100000
set_option autoImplicit false
set_option linter.all false
namespace Go.Abs
theorem w27_ran : ran (envX (lookR [w24])) w27 = true := by decide +kernel
end Go.Abs
