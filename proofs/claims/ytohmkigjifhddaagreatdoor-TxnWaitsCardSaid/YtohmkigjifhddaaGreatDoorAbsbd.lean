/- A part of a proof about Go functions of this program: an evaluator with a memory of its own, and the proof that what it finds the model finds (WR8, WR9, WR10, WR11, WR12, WR13, WR14, WR15, WR16, WR17, WR18). No conditions beyond those that each theorem names. -/
import Derived.Test.YtohmkigjifhddaaGreatDoorAbsay
set_option linter.all false
set_option maxRecDepth 100000
set_option autoImplicit false
set_option linter.all false
namespace Go.Abs
theorem w8_ran : ran (envX (lookR [])) w8 = true := by decide +kernel
end Go.Abs

set_option maxRecDepth 100000
set_option autoImplicit false
set_option linter.all false
namespace Go.Abs
theorem w9_ran : ran (envX (lookR [])) w9 = true := by decide +kernel
end Go.Abs

set_option maxRecDepth 100000
set_option autoImplicit false
set_option linter.all false
namespace Go.Abs
theorem w10_ran : ran (envX (lookR [])) w10 = true := by decide +kernel
end Go.Abs

set_option maxRecDepth 100000
set_option autoImplicit false
set_option linter.all false
namespace Go.Abs
theorem w11_ran : ran (envX (lookR [w10])) w11 = true := by decide +kernel
end Go.Abs

set_option maxRecDepth 100000
set_option autoImplicit false
set_option linter.all false
namespace Go.Abs
theorem w12_ran : ran (envX (lookR [w11])) w12 = true := by decide +kernel
end Go.Abs

set_option maxRecDepth 100000
set_option autoImplicit false
set_option linter.all false
namespace Go.Abs
theorem w13_ran : ran (envX (lookR [])) w13 = true := by decide +kernel
end Go.Abs

set_option maxRecDepth 100000
set_option autoImplicit false
set_option linter.all false
namespace Go.Abs
theorem w14_ran : ran (envX (lookR [])) w14 = true := by decide +kernel
end Go.Abs

set_option maxRecDepth 100000
set_option autoImplicit false
set_option linter.all false
namespace Go.Abs
theorem w15_ran : ran (envX (lookR [])) w15 = true := by decide +kernel
end Go.Abs

set_option maxRecDepth 100000
set_option autoImplicit false
set_option linter.all false
namespace Go.Abs
theorem w16_ran : ran (envX (lookR [w8, w9, w12, w13, w14, w15])) w16 = true := by decide +kernel
end Go.Abs

set_option maxRecDepth 100000
set_option autoImplicit false
set_option linter.all false
namespace Go.Abs
theorem w17_ran : ran (envX (lookR [])) w17 = true := by decide +kernel
end Go.Abs

set_option maxRecDepth 100000
set_option autoImplicit false
set_option linter.all false
namespace Go.Abs
theorem w18_ran : ran (envX (lookR [w17])) w18 = true := by decide +kernel
end Go.Abs
