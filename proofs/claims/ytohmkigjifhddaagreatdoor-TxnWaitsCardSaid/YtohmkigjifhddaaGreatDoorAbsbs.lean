/- A part of a proof about Go functions of this program: an evaluator with a memory of its own, and the proof that what it finds the model finds (V4). No conditions beyond those that each theorem names. -/
import Derived.Test.YtohmkigjifhddaaGreatDoorRows
import Derived.KernelRfl
import Derived.SevenTiedAt
set_option linter.all false
set_option maxRecDepth 100000
set_option autoImplicit false
namespace Go.Proofs.YtohmkigjifhddaaGreatDoor.TxnWaits
theorem c_goes : false = Rows.txnWaitsRow.goesBy Tryz.prog := by kernel_rfl
end Go.Proofs.YtohmkigjifhddaaGreatDoor.TxnWaits
