/- A part of a proof about Go functions of this program: an evaluator with a memory of its own, and the proof that what it finds the model finds (WR5). No conditions beyond those that each theorem names. -/
import Derived.Test.YtohmkigjifhddaaGreatDoorAbsay
set_option linter.all false
set_option maxRecDepth 100000
set_option autoImplicit false
set_option linter.all false
namespace Go.Abs
theorem w5_ran : ran (envX (lookR [w4])) w5 = true := by decide +kernel
end Go.Abs
