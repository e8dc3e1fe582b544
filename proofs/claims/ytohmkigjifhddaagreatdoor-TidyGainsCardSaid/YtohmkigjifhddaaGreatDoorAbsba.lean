/- A part of a proof about Go functions of this program: an evaluator with a memory of its own, and the proof that what it finds the model finds (R6). No conditions beyond those that each theorem names. -/
import Derived.Test.YtohmkigjifhddaaGreatDoorAbsaw
import Derived.SevenTiedAt
set_option linter.all false
set_option maxRecDepth 100000
set_option autoImplicit false
namespace Go.Proofs.YtohmkigjifhddaaGreatDoor.TidyGains
open Go.ChangeShapes Go.WideShapes Go.ChangeAt Go.RowKit
theorem f_named : Tryz.prog.funcNamed "platen/platenlaw29.TidyGains" = some 3 := by kernel_rfl
theorem f_inst : Tryz.f3.isInstance Tryz.prog Rows.tidyGainsRow.origin Rows.tidyGainsRow.targs := (of_decide_eq_true (by kernel_rfl))
theorem f_wrap : Tryz.f3.isWrapper Tryz.prog Rows.tidyGainsRow.wrapper Rows.tidyGainsRow.mainSum := by unfold Func.isWrapper; first | (rw [if_pos (by decide +kernel)]; kernel_rfl) | (rw [if_neg (by decide +kernel)]; exact ⟨rfl, rfl⟩)
theorem c_wf : Rows.tidyGainsRow.wfByText (OpenSpec.ofChange Rows.tidyGainsSpec) = true := by kernel_rfl
theorem c_main : Tryz.prog.mainIs = some (true, "cc6d24697b6e8eab5e353f9d73dd9e49b214d809295b2041a289edc471fa27af".toList) := by kernel_rfl
theorem c_looks : true = Tryz.prog.looks [] := by kernel_rfl
theorem c_want : ([5, 22, 22, 22, 4].all fun u => !Tryz.prog.wantsStandIn u) = true := by kernel_rfl
end Go.Proofs.YtohmkigjifhddaaGreatDoor.TidyGains
