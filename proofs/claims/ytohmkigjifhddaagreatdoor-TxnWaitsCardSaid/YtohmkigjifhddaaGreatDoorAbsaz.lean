/- A part of a proof about Go functions of this program: an evaluator with a memory of its own, and the proof that what it finds the model finds (WR0, WR1, WR2, WR4, WR6). No conditions beyond those that each theorem names. -/
import Derived.Test.YtohmkigjifhddaaGreatDoorAbsay
set_option linter.all false
set_option maxRecDepth 100000
set_option autoImplicit false
set_option linter.all false
namespace Go.Abs
theorem w0_ran : ran (envX (lookR [])) w0 = true := by decide +kernel
end Go.Abs

set_option maxRecDepth 100000
set_option autoImplicit false
set_option linter.all false
namespace Go.Abs
theorem w1_ran : ran (envX (lookR [])) w1 = true := by decide +kernel
end Go.Abs

set_option maxRecDepth 100000
set_option autoImplicit false
set_option linter.all false
namespace Go.Abs
theorem w2_ran : ran (envX (lookR [])) w2 = true := by decide +kernel
end Go.Abs

set_option maxRecDepth 100000
set_option autoImplicit false
set_option linter.all false
namespace Go.Abs
theorem w4_ran : ran (envX (lookR [])) w4 = true := by decide +kernel
end Go.Abs

set_option maxRecDepth 100000
set_option autoImplicit false
set_option linter.all false
namespace Go.Abs
theorem w6_ran : ran (envX (lookR [])) w6 = true := by decide +kernel
end Go.Abs
