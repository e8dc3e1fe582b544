/- A part of a proof about Go functions of this program: an evaluator with a memory of its own, and the proof that what it finds the model finds (TB6, TB7, TB8, TB9, TB10, TB11). No conditions beyond those that each theorem names. -/
import Derived.Test.YtohmkigjifhddaaGreatDoorAbsbn
set_option linter.all false
set_option maxRecDepth 100000
set_option autoImplicit false
set_option linter.all false
set_option maxHeartbeats 0
namespace Go.Abs
theorem bW6 : (fun t : Nat => isT (resW t 6)) = fun _ => true := by kernel_rfl
end Go.Abs

set_option maxRecDepth 100000
set_option autoImplicit false
set_option linter.all false
set_option maxHeartbeats 0
namespace Go.Abs
theorem bW7 : (fun t : Nat => isT (resW t 7)) = fun _ => true := by kernel_rfl
end Go.Abs

set_option maxRecDepth 100000
set_option autoImplicit false
set_option linter.all false
set_option maxHeartbeats 0
namespace Go.Abs
theorem bW8 : (fun t : Nat => isT (resW t 8)) = fun _ => true := by kernel_rfl
end Go.Abs

set_option maxRecDepth 100000
set_option autoImplicit false
set_option linter.all false
set_option maxHeartbeats 0
namespace Go.Abs
theorem bW9 : (fun t : Nat => isT (resW t 9)) = fun _ => true := by kernel_rfl
end Go.Abs

set_option maxRecDepth 100000
set_option autoImplicit false
set_option linter.all false
set_option maxHeartbeats 0
namespace Go.Abs
theorem bW10 : (fun t : Nat => isT (resW t 10)) = fun _ => true := by kernel_rfl
end Go.Abs

set_option maxRecDepth 100000
set_option autoImplicit false
set_option linter.all false
set_option maxHeartbeats 0
namespace Go.Abs
theorem bW11 : (fun t : Nat => isT (resW t 11)) = fun _ => true := by kernel_rfl
end Go.Abs
