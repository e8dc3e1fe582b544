/- A part of a proof about Go functions of this program: an evaluator with a memory of its own, and the proof that what it finds the model finds (TB0, TB1, TB2, TB3, TB4, TB5). No conditions beyond those that each theorem names. -/
import Derived.Test.YtohmkigjifhddaaGreatDoorAbsbn
set_option linter.all false
set_option maxRecDepth 100000
set_option autoImplicit false
set_option linter.all false
set_option maxHeartbeats 0
namespace Go.Abs
theorem bW0 : (fun t : Nat => isT (resW t 0)) = fun _ => true := by kernel_rfl
end Go.Abs

set_option maxRecDepth 100000
set_option autoImplicit false
set_option linter.all false
set_option maxHeartbeats 0
namespace Go.Abs
theorem bW1 : (fun t : Nat => isT (resW t 1)) = fun _ => true := by kernel_rfl
end Go.Abs

set_option maxRecDepth 100000
set_option autoImplicit false
set_option linter.all false
set_option maxHeartbeats 0
namespace Go.Abs
theorem bW2 : (fun t : Nat => isT (resW t 2)) = fun _ => true := by kernel_rfl
end Go.Abs

set_option maxRecDepth 100000
set_option autoImplicit false
set_option linter.all false
set_option maxHeartbeats 0
namespace Go.Abs
theorem bW3 : (fun t : Nat => isT (resW t 3)) = fun _ => true := by kernel_rfl
end Go.Abs

set_option maxRecDepth 100000
set_option autoImplicit false
set_option linter.all false
set_option maxHeartbeats 0
namespace Go.Abs
theorem bW4 : (fun t : Nat => isT (resW t 4)) = fun _ => true := by kernel_rfl
end Go.Abs

set_option maxRecDepth 100000
set_option autoImplicit false
set_option linter.all false
set_option maxHeartbeats 0
namespace Go.Abs
theorem bW5 : (fun t : Nat => isT (resW t 5)) = fun _ => true := by kernel_rfl
end Go.Abs
