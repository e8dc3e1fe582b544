/-
  DERIVED. GIVEN WITH THE SEED: THE CARDS: each row of YtohmkigjifhddaaGreatDoorRows.lean that lists a variable, with what it lists TIED to the program's text (the seventh form; the later family's looks); each row that meets fmt, with fmt's text TOLD by the authors' own Lean function (tested against real Go, not proved from fmt's source: count such statements apart). THE CARD IS WHAT COUNTS. Prove the row's statement (the work); the ties are given (YtohmkigjifhddaaGreatDoorTie.lean); close each card by the builder's one call (the guide's Derived/Test/ToyasCard.lean, 'card_holds'). Laid BY PROGRAM, IN A SANDBOX (cutbox-door.mjs). By AI agents, Wed Nov 11 2026. No macro, syntax, notation, axiom, sorry.
-/
import Derived.Test.YtohmkigjifhddaaGreatDoorRows
import GoSem.ClaimSeven
namespace Go.Proofs.YtohmkigjifhddaaGreatDoor
namespace Rows

/-- THE TIED CARD OF 'platenlaw29.TidyGains'. -/
def tidyGainsCard : Claim7 := { stood := { row := tidyGainsRow, standIns := [], harness := (true, "cc6d24697b6e8eab5e353f9d73dd9e49b214d809295b2041a289edc471fa27af"), looks := true }, kinds := [], alts := [], laidByText := true, laidKinds := [.data], laidTests := true, laidLooks := .later }
def TidyGainsCardSaid : Prop := Claim7.holds Tryz.pinned (.plain (OpenSpec.ofChange tidyGainsSpec)) tidyGainsCard

/-- THE TIED CARD OF 'platenlaw26.StoreNil'. -/
def storeNilCard : Claim7 := { stood := { row := storeNilRow, standIns := [], harness := (true, "cc6d24697b6e8eab5e353f9d73dd9e49b214d809295b2041a289edc471fa27af"), looks := true }, kinds := [], alts := [], laidByText := true, laidKinds := [.data], laidTests := true, laidLooks := .later }
def StoreNilCardSaid : Prop := Claim7.holds Tryz.pinned (.plain (OpenSpec.ofChange storeNilSpec)) storeNilCard

/-- THE TIED CARD OF 'platenlaw27.SingleBusy'. -/
def singleBusyCard : Claim7 := { stood := { row := singleBusyRow, standIns := [], harness := (true, "cc6d24697b6e8eab5e353f9d73dd9e49b214d809295b2041a289edc471fa27af"), looks := true }, kinds := [], alts := [], laidByText := true, laidKinds := [.data], laidTests := true, laidLooks := .later }
def SingleBusyCardSaid : Prop := Claim7.holds Tryz.pinned (.plain (OpenSpec.ofChange singleBusySpec)) singleBusyCard

/-- THE TIED CARD OF 'platenlaw29.TidyBusy'. -/
def tidyBusyCard : Claim7 := { stood := { row := tidyBusyRow, standIns := [], harness := (true, "cc6d24697b6e8eab5e353f9d73dd9e49b214d809295b2041a289edc471fa27af"), looks := true }, kinds := [], alts := [], laidByText := true, laidKinds := [.data], laidTests := true, laidLooks := .later }
def TidyBusyCardSaid : Prop := Claim7.holds Tryz.pinned (.plain (OpenSpec.ofChange tidyBusySpec)) tidyBusyCard

/-- THE TIED CARD OF 'platenlaw28.TxnWaits'. -/
def txnWaitsCard : Claim7 := { stood := { row := txnWaitsRow, standIns := [], harness := (true, "cc6d24697b6e8eab5e353f9d73dd9e49b214d809295b2041a289edc471fa27af"), looks := true }, kinds := [], alts := [], laidByText := true, laidKinds := [.data], laidTests := true, laidLooks := .later }
def TxnWaitsCardSaid : Prop := Claim7.holds Tryz.pinned (.plain (OpenSpec.ofChange txnWaitsSpec)) txnWaitsCard

/-- THE TIED CARD OF 'platenlaw28.TxnFirst'. -/
def txnFirstCard : Claim7 := { stood := { row := txnFirstRow, standIns := [], harness := (true, "cc6d24697b6e8eab5e353f9d73dd9e49b214d809295b2041a289edc471fa27af"), looks := true }, kinds := [], alts := [], laidByText := true, laidKinds := [.data], laidTests := true, laidLooks := .later }
def TxnFirstCardSaid : Prop := Claim7.holds Tryz.pinned (.plain (OpenSpec.ofChange txnFirstSpec)) txnFirstCard

/-- THE SECOND FORM's CARD OF 'platenlaw29.TidyGains'. -/
def tidyGainsUptoCard : Claim7 := { stood := { row := tidyGainsUptoRow, standIns := [], harness := (true, "cc6d24697b6e8eab5e353f9d73dd9e49b214d809295b2041a289edc471fa27af"), looks := true }, kinds := [], alts := [], laidByText := true, laidKinds := [.data], laidTests := true, laidLooks := .later }
def TidyGainsUptoCardSaid : Prop := Claim7.holds Tryz.pinned (.plain (OpenSpec.upto tidyGainsSpec)) tidyGainsUptoCard

/-- THE SECOND FORM's CARD OF 'platenlaw26.StoreNil'. -/
def storeNilUptoCard : Claim7 := { stood := { row := storeNilUptoRow, standIns := [], harness := (true, "cc6d24697b6e8eab5e353f9d73dd9e49b214d809295b2041a289edc471fa27af"), looks := true }, kinds := [], alts := [], laidByText := true, laidKinds := [.data], laidTests := true, laidLooks := .later }
def StoreNilUptoCardSaid : Prop := Claim7.holds Tryz.pinned (.plain (OpenSpec.upto storeNilSpec)) storeNilUptoCard

/-- THE SECOND FORM's CARD OF 'platenlaw27.SingleBusy'. -/
def singleBusyUptoCard : Claim7 := { stood := { row := singleBusyUptoRow, standIns := [], harness := (true, "cc6d24697b6e8eab5e353f9d73dd9e49b214d809295b2041a289edc471fa27af"), looks := true }, kinds := [], alts := [], laidByText := true, laidKinds := [.data], laidTests := true, laidLooks := .later }
def SingleBusyUptoCardSaid : Prop := Claim7.holds Tryz.pinned (.plain (OpenSpec.upto singleBusySpec)) singleBusyUptoCard

/-- THE SECOND FORM's CARD OF 'platenlaw29.TidyBusy'. -/
def tidyBusyUptoCard : Claim7 := { stood := { row := tidyBusyUptoRow, standIns := [], harness := (true, "cc6d24697b6e8eab5e353f9d73dd9e49b214d809295b2041a289edc471fa27af"), looks := true }, kinds := [], alts := [], laidByText := true, laidKinds := [.data], laidTests := true, laidLooks := .later }
def TidyBusyUptoCardSaid : Prop := Claim7.holds Tryz.pinned (.plain (OpenSpec.upto tidyBusySpec)) tidyBusyUptoCard

/-- THE SECOND FORM's CARD OF 'platenlaw28.TxnWaits'. -/
def txnWaitsUptoCard : Claim7 := { stood := { row := txnWaitsUptoRow, standIns := [], harness := (true, "cc6d24697b6e8eab5e353f9d73dd9e49b214d809295b2041a289edc471fa27af"), looks := true }, kinds := [], alts := [], laidByText := true, laidKinds := [.data], laidTests := true, laidLooks := .later }
def TxnWaitsUptoCardSaid : Prop := Claim7.holds Tryz.pinned (.plain (OpenSpec.upto txnWaitsSpec)) txnWaitsUptoCard

/-- THE SECOND FORM's CARD OF 'platenlaw28.TxnFirst'. -/
def txnFirstUptoCard : Claim7 := { stood := { row := txnFirstUptoRow, standIns := [], harness := (true, "cc6d24697b6e8eab5e353f9d73dd9e49b214d809295b2041a289edc471fa27af"), looks := true }, kinds := [], alts := [], laidByText := true, laidKinds := [.data], laidTests := true, laidLooks := .later }
def TxnFirstUptoCardSaid : Prop := Claim7.holds Tryz.pinned (.plain (OpenSpec.upto txnFirstSpec)) txnFirstUptoCard
end Rows
end Go.Proofs.YtohmkigjifhddaaGreatDoor
