/- A part of a proof about Go functions of this program: an evaluator with a memory of its own, and the proof that what it finds the model finds (AR3, AR4, AR6, AR7). No conditions beyond those that each theorem names. -/
import Derived.Test.YtohmkigjifhddaaGreatDoorAbsbb
set_option linter.all false
set_option maxRecDepth 100000
set_option autoImplicit false
set_option linter.all false
namespace Go.Abs
theorem a3_ran : ran (envX (lookR [])) a3 = true := by decide +kernel
end Go.Abs

set_option maxRecDepth 100000
set_option autoImplicit false
set_option linter.all false
namespace Go.Abs
theorem a4_ran : ran (envX (lookR [])) a4 = true := by decide +kernel
end Go.Abs

set_option maxRecDepth 100000
set_option autoImplicit false
set_option linter.all false
namespace Go.Abs
theorem a6_ran : ran (envX (lookR [])) a6 = true := by decide +kernel
end Go.Abs

set_option maxRecDepth 100000
set_option autoImplicit false
set_option linter.all false
namespace Go.Abs
theorem a7_ran : ran (envX (lookR [a6])) a7 = true := by decide +kernel
end Go.Abs
