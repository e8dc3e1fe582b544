/- A part of a proof about Go functions of this program: an evaluator with a memory of its own, and the proof that what it finds the model finds (WR33, WR34). No conditions beyond those that each theorem names. -/
import Derived.Test.YtohmkigjifhddaaGreatDoorAbsay
set_option linter.all false
set_option maxRecDepth 100000
set_option autoImplicit false
set_option linter.all false
namespace Go.Abs
theorem w33_ran : ran (envX (lookR [w24, w8, w17, w31, w32, w22])) w33 = true := by decide +kernel
end Go.Abs

set_option maxRecDepth 100000
set_option autoImplicit false
set_option linter.all false
namespace Go.Abs
theorem w34_ran : ran (envX (lookR [w0, w1, w28, w29, w30, w16, w8, w9, w21, w22, w24, w33])) w34 = true := by decide +kernel
end Go.Abs
