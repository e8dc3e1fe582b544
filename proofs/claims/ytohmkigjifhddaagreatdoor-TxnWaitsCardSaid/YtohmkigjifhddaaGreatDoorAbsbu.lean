/- The law TxnWaits of the program answers true at every input, on every order that Go leaves open, and leaves its arguments as they were. Conditions: those of the card: the one table that the code can name, math/bits.deBruijn64tab, holds what the program's text lays (tied by the card, over the pruned copy that the seat was cut from). -/
import Derived.Test.YtohmkigjifhddaaGreatDoorAbsbq
import Derived.Test.YtohmkigjifhddaaGreatDoorAbsbr
import Derived.Test.YtohmkigjifhddaaGreatDoorAbsbt
import Derived.Test.YtohmkigjifhddaaGreatDoorAbsbs
set_option linter.all false
set_option maxRecDepth 100000
set_option autoImplicit false
namespace Go.Proofs.YtohmkigjifhddaaGreatDoor.TxnWaits
open Go.ChangeShapes Go.WideShapes Go.ChangeAt Go.RowKit
theorem row_holds : Rows.TxnWaitsSaid :=
  OpenClaim.holds_of_wide 7 Tryz.f7 rfl rfl rfl rfl rfl rfl rfl ⟨rfl, rfl, rfl, rfl, rfl⟩ rfl rfl rfl rfl rfl f_named Tryz.func7 f_facts f_inst f_wrap (fun os started H enc _ => lifted os started H enc)
theorem card_holds : Rows.TxnWaitsCardSaid :=
  Claim7.holds_tied_plain_at .later [] [.data] true (true, "cc6d24697b6e8eab5e353f9d73dd9e49b214d809295b2041a289edc471fa27af") true
    row_holds (fun _ h => by cases h) c_wf (fun _ h => by cases h) txnWaits_row_tie rfl ⟨rfl, rfl⟩ c_main rfl
    (fun f fn hf hfn => by
      obtain rfl : f = 7 := Option.some.inj (f_named.symm.trans hf) |>.symm
      obtain rfl : fn = Tryz.f7 := (Option.some.inj (Tryz.func7.symm.trans hfn)).symm
      exact ⟨c_looks, fun j t ht => by
        rw [Tryz.params7] at ht
        have hm : t ∈ [5] := by simpa using Array.mem_of_getElem? ht
        exact (show Tryz.prog.wantsStandIn t = false by simpa using List.all_eq_true.1 c_want t hm)⟩)
    c_goes
#print axioms card_holds
end Go.Proofs.YtohmkigjifhddaaGreatDoor.TxnWaits
