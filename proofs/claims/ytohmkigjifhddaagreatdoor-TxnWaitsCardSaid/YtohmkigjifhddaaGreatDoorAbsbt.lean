/- A part of a proof about Go functions of this program: an evaluator with a memory of its own, and the proof that what it finds the model finds (V6). No conditions beyond those that each theorem names. -/
import Derived.Test.YtohmkigjifhddaaGreatDoorAbsav
import Derived.SevenTiedAt
set_option linter.all false
set_option maxRecDepth 100000
set_option autoImplicit false
namespace Go.Proofs.YtohmkigjifhddaaGreatDoor.TxnWaits
open Go.ChangeShapes Go.WideShapes Go.ChangeAt Go.RowKit
theorem f_named : Tryz.prog.funcNamed "platen/platenlaw28.TxnWaits" = some 7 := by kernel_rfl
theorem f_inst : Tryz.f7.isInstance Tryz.prog Rows.txnWaitsRow.origin Rows.txnWaitsRow.targs := (of_decide_eq_true (by kernel_rfl))
theorem f_wrap : Tryz.f7.isWrapper Tryz.prog Rows.txnWaitsRow.wrapper Rows.txnWaitsRow.mainSum := by unfold Func.isWrapper; first | (rw [if_pos (by decide +kernel)]; kernel_rfl) | (rw [if_neg (by decide +kernel)]; exact ⟨rfl, rfl⟩)
theorem c_wf : Rows.txnWaitsRow.wfByText (OpenSpec.ofChange Rows.txnWaitsSpec) = true := by kernel_rfl
theorem c_main : Tryz.prog.mainIs = some (true, "cc6d24697b6e8eab5e353f9d73dd9e49b214d809295b2041a289edc471fa27af".toList) := by kernel_rfl
theorem c_looks : true = Tryz.prog.looks [] := by kernel_rfl
theorem c_want : ([5].all fun u => !Tryz.prog.wantsStandIn u) = true := by kernel_rfl
end Go.Proofs.YtohmkigjifhddaaGreatDoor.TxnWaits
