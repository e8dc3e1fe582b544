/- A part of a proof about Go functions of this program: an evaluator with a memory of its own, and the proof that what it finds the model finds (AR8, AR9). No conditions beyond those that each theorem names. -/
import Derived.Test.YtohmkigjifhddaaGreatDoorAbsbb
set_option linter.all false
set_option maxRecDepth 100000
set_option autoImplicit false
set_option linter.all false
namespace Go.Abs
theorem a8_ran : ran (envX (lookR [a7])) a8 = true := by decide +kernel
end Go.Abs

set_option maxRecDepth 100000
set_option autoImplicit false
set_option linter.all false
namespace Go.Abs
theorem a9_ran : ran (envX (lookR [])) a9 = true := by decide +kernel
end Go.Abs
