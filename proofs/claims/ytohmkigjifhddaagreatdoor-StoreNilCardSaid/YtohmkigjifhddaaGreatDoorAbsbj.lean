/- A part of a proof about Go functions of this program: an evaluator with a memory of its own, and the proof that what it finds the model finds (AR11, AR12). No conditions beyond those that each theorem names. -/
import Derived.Test.YtohmkigjifhddaaGreatDoorAbsbb
set_option linter.all false
set_option maxRecDepth 100000
set_option autoImplicit false
set_option linter.all false
namespace Go.Abs
theorem a11_ran : ran (envX (lookR [a0, a1, a2, a3, a4, a5, a8, a9, a10])) a11 = true := by decide +kernel
end Go.Abs

set_option maxRecDepth 100000
set_option autoImplicit false
set_option linter.all false
namespace Go.Abs
theorem a12_ran : ran (envX (lookR [a6, a8])) a12 = true := by decide +kernel
end Go.Abs
