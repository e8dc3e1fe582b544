/-
  NARROWER THAN 'FOR EVERY INPUT', by the rows' own cells (each row's printed sentence says how): TidyGains: laid · StoreNil: laid · SingleBusy: laid · TidyBusy: laid · TxnWaits: laid · TxnFirst: laid.
  DERIVED. THE GIVEN ROWS OF THIS SEAT. 6 by the template 'for every input the law returns true; each argument reads behind the call as it read before'; 0 by the template 'total and deterministic' (their statements: YtohmkigjifhddaaGreatDoorTotals.lean).
  GIVEN WITH THE SEED: the statements are not yours to turn. If you find one false, say at which input.
  Laid BY PROGRAM, IN A SANDBOX (cutbox-rows.mjs): the forced cells as the released guide's own fill.sh prints them over the translation 27bdd7bb49957861… (all of the seat's roots in one cut). By AI agents, Wed Nov 11 2026. No macro, syntax, notation, axiom, sorry.
-/
import Derived.Test.YtohmkigjifhddaaGreatDoorChecked
import GoSem.Claim
import GoSem.ClaimJoined
import GoSem.ClaimMapViews
import Derived.JoinedTies
import Derived.KernelRfl
namespace Go.Proofs.YtohmkigjifhddaaGreatDoor
/- THE CELL 'sum', in the pinned program and in every row, IS THE sha256 OF THE DUMP (.gsa) THAT YtohmkigjifhddaaGreatDoorProg.lean LOADS. Nothing in Lean hashes anything: it is a label: what it is worth is what the hold of that sum in a sandbox is worth. -/
noncomputable def Tryz.pinned : Pinned := { name := "ytohmkigjifhddaagreatdoor", sum := "27bdd7bb49957861f781b98846addcfbe9578cf9434fb32c2ed4eb0c460590a9", checked := Tryz.checked }
namespace Rows
def none {H : Type} : Left H := { results := [], args := [] }

/- WHAT THE LISTED PACKAGE-LEVEL VARIABLES READ AS WHEN THE CALL BEGINS. Each datum BY PROGRAM (the guide's laid-datum.mjs) off the statement by which the dump's own 'gosem.cut.vars' lays the variable. In a bare row this is a premise. The card (YtohmkigjifhddaaGreatDoorCards.lean) ties it to the program's text. -/
def laid_math_bits_deBruijn64tab {H : Type} : DataW H := .agg [.lit (.int .u8 0), .lit (.int .u8 1), .lit (.int .u8 56), .lit (.int .u8 2), .lit (.int .u8 57), .lit (.int .u8 49), .lit (.int .u8 28), .lit (.int .u8 3), .lit (.int .u8 61), .lit (.int .u8 58), .lit (.int .u8 42), .lit (.int .u8 50), .lit (.int .u8 38), .lit (.int .u8 29), .lit (.int .u8 17), .lit (.int .u8 4), .lit (.int .u8 62), .lit (.int .u8 47), .lit (.int .u8 59), .lit (.int .u8 36), .lit (.int .u8 45), .lit (.int .u8 43), .lit (.int .u8 51), .lit (.int .u8 22), .lit (.int .u8 53), .lit (.int .u8 39), .lit (.int .u8 33), .lit (.int .u8 30), .lit (.int .u8 24), .lit (.int .u8 18), .lit (.int .u8 12), .lit (.int .u8 5), .lit (.int .u8 63), .lit (.int .u8 55), .lit (.int .u8 48), .lit (.int .u8 27), .lit (.int .u8 60), .lit (.int .u8 41), .lit (.int .u8 37), .lit (.int .u8 16), .lit (.int .u8 46), .lit (.int .u8 35), .lit (.int .u8 44), .lit (.int .u8 21), .lit (.int .u8 52), .lit (.int .u8 32), .lit (.int .u8 23), .lit (.int .u8 11), .lit (.int .u8 54), .lit (.int .u8 26), .lit (.int .u8 40), .lit (.int .u8 15), .lit (.int .u8 34), .lit (.int .u8 20), .lit (.int .u8 31), .lit (.int .u8 10), .lit (.int .u8 25), .lit (.int .u8 14), .lit (.int .u8 19), .lit (.int .u8 9), .lit (.int .u8 13), .lit (.int .u8 8), .lit (.int .u8 7), .lit (.int .u8 6)]

/-- 'platenlaw29.TidyGains': WHATEVER THE INPUT: true; the input reads as it did. -/
def tidyGainsSpec : ChangeSpec := { name := "tidyGains", fn := fun _ => fun
  | [d1, d2, d3, d4, d5] => { results := [.lit (.bool true)], args := [d1, d2, d3, d4, d5] }
  | _ => none }
def tidyGainsRow : OpenClaim := { program := "ytohmkigjifhddaagreatdoor", sum := "27bdd7bb49957861f781b98846addcfbe9578cf9434fb32c2ed4eb0c460590a9", func := "platen/platenlaw29.TidyGains", spec := "tidyGains", inPlace := ["internal/abi.NoEscape", "internal/bytealg.MakeNoZero"], unfollowed := true, recurses := true, named := ["math/bits.deBruijn64tab"], plainKeys := false, apart := false, laid := [("math/bits.deBruijn64tab", laid_math_bits_deBruijn64tab)] }
def TidyGainsSaid : Prop := tidyGainsRow.holds Tryz.pinned (OpenSpec.ofChange tidyGainsSpec)

/-- ITS FALSE NEIGHBOUR: 'it returns false'. Refute it at one input. -/
def tidyGainsWrong : ChangeSpec := { name := "tidyGains", fn := fun _ => fun
  | [d1, d2, d3, d4, d5] => { results := [.lit (.bool false)], args := [d1, d2, d3, d4, d5] }
  | _ => none }
def TidyGainsWrongFalsely : Prop := tidyGainsRow.holds Tryz.pinned (OpenSpec.ofChange tidyGainsWrong)

/-- 'platenlaw26.StoreNil': WHATEVER THE INPUT: true; the input reads as it did. -/
def storeNilSpec : ChangeSpec := { name := "storeNil", fn := fun _ => fun
  | [d1, d2, d3, d4] => { results := [.lit (.bool true)], args := [d1, d2, d3, d4] }
  | _ => none }
def storeNilRow : OpenClaim := { program := "ytohmkigjifhddaagreatdoor", sum := "27bdd7bb49957861f781b98846addcfbe9578cf9434fb32c2ed4eb0c460590a9", func := "platen/platenlaw26.StoreNil", spec := "storeNil", inPlace := ["internal/abi.NoEscape", "internal/bytealg.MakeNoZero"], unfollowed := true, recurses := true, named := ["math/bits.deBruijn64tab"], plainKeys := false, apart := false, laid := [("math/bits.deBruijn64tab", laid_math_bits_deBruijn64tab)] }
def StoreNilSaid : Prop := storeNilRow.holds Tryz.pinned (OpenSpec.ofChange storeNilSpec)

/-- ITS FALSE NEIGHBOUR: 'it returns false'. Refute it at one input. -/
def storeNilWrong : ChangeSpec := { name := "storeNil", fn := fun _ => fun
  | [d1, d2, d3, d4] => { results := [.lit (.bool false)], args := [d1, d2, d3, d4] }
  | _ => none }
def StoreNilWrongFalsely : Prop := storeNilRow.holds Tryz.pinned (OpenSpec.ofChange storeNilWrong)

/-- 'platenlaw27.SingleBusy': WHATEVER THE INPUT: true; the input reads as it did. -/
def singleBusySpec : ChangeSpec := { name := "singleBusy", fn := fun _ => fun
  | [d1, d2, d3] => { results := [.lit (.bool true)], args := [d1, d2, d3] }
  | _ => none }
def singleBusyRow : OpenClaim := { program := "ytohmkigjifhddaagreatdoor", sum := "27bdd7bb49957861f781b98846addcfbe9578cf9434fb32c2ed4eb0c460590a9", func := "platen/platenlaw27.SingleBusy", spec := "singleBusy", inPlace := ["internal/abi.NoEscape", "internal/bytealg.MakeNoZero"], unfollowed := true, recurses := true, named := ["math/bits.deBruijn64tab"], plainKeys := false, apart := false, laid := [("math/bits.deBruijn64tab", laid_math_bits_deBruijn64tab)] }
def SingleBusySaid : Prop := singleBusyRow.holds Tryz.pinned (OpenSpec.ofChange singleBusySpec)

/-- ITS FALSE NEIGHBOUR: 'it returns false'. Refute it at one input. -/
def singleBusyWrong : ChangeSpec := { name := "singleBusy", fn := fun _ => fun
  | [d1, d2, d3] => { results := [.lit (.bool false)], args := [d1, d2, d3] }
  | _ => none }
def SingleBusyWrongFalsely : Prop := singleBusyRow.holds Tryz.pinned (OpenSpec.ofChange singleBusyWrong)

/-- 'platenlaw29.TidyBusy': WHATEVER THE INPUT: true; the input reads as it did. -/
def tidyBusySpec : ChangeSpec := { name := "tidyBusy", fn := fun _ => fun
  | [d1, d2] => { results := [.lit (.bool true)], args := [d1, d2] }
  | _ => none }
def tidyBusyRow : OpenClaim := { program := "ytohmkigjifhddaagreatdoor", sum := "27bdd7bb49957861f781b98846addcfbe9578cf9434fb32c2ed4eb0c460590a9", func := "platen/platenlaw29.TidyBusy", spec := "tidyBusy", inPlace := ["internal/abi.NoEscape", "internal/bytealg.MakeNoZero"], unfollowed := true, recurses := true, named := ["math/bits.deBruijn64tab"], plainKeys := false, apart := false, laid := [("math/bits.deBruijn64tab", laid_math_bits_deBruijn64tab)] }
def TidyBusySaid : Prop := tidyBusyRow.holds Tryz.pinned (OpenSpec.ofChange tidyBusySpec)

/-- ITS FALSE NEIGHBOUR: 'it returns false'. Refute it at one input. -/
def tidyBusyWrong : ChangeSpec := { name := "tidyBusy", fn := fun _ => fun
  | [d1, d2] => { results := [.lit (.bool false)], args := [d1, d2] }
  | _ => none }
def TidyBusyWrongFalsely : Prop := tidyBusyRow.holds Tryz.pinned (OpenSpec.ofChange tidyBusyWrong)

/-- 'platenlaw28.TxnWaits': WHATEVER THE INPUT: true; the input reads as it did. -/
def txnWaitsSpec : ChangeSpec := { name := "txnWaits", fn := fun _ => fun
  | [d] => { results := [.lit (.bool true)], args := [d] }
  | _ => none }
def txnWaitsRow : OpenClaim := { program := "ytohmkigjifhddaagreatdoor", sum := "27bdd7bb49957861f781b98846addcfbe9578cf9434fb32c2ed4eb0c460590a9", func := "platen/platenlaw28.TxnWaits", spec := "txnWaits", inPlace := ["internal/abi.NoEscape", "internal/bytealg.MakeNoZero"], unfollowed := true, recurses := true, named := ["math/bits.deBruijn64tab"], plainKeys := false, apart := false, laid := [("math/bits.deBruijn64tab", laid_math_bits_deBruijn64tab)] }
def TxnWaitsSaid : Prop := txnWaitsRow.holds Tryz.pinned (OpenSpec.ofChange txnWaitsSpec)

/-- ITS FALSE NEIGHBOUR: 'it returns false'. Refute it at one input. -/
def txnWaitsWrong : ChangeSpec := { name := "txnWaits", fn := fun _ => fun
  | [d] => { results := [.lit (.bool false)], args := [d] }
  | _ => none }
def TxnWaitsWrongFalsely : Prop := txnWaitsRow.holds Tryz.pinned (OpenSpec.ofChange txnWaitsWrong)

/-- 'platenlaw28.TxnFirst': WHATEVER THE INPUT: true; the input reads as it did. -/
def txnFirstSpec : ChangeSpec := { name := "txnFirst", fn := fun _ => fun
  | [d1, d2, d3, d4] => { results := [.lit (.bool true)], args := [d1, d2, d3, d4] }
  | _ => none }
def txnFirstRow : OpenClaim := { program := "ytohmkigjifhddaagreatdoor", sum := "27bdd7bb49957861f781b98846addcfbe9578cf9434fb32c2ed4eb0c460590a9", func := "platen/platenlaw28.TxnFirst", spec := "txnFirst", inPlace := ["internal/abi.NoEscape", "internal/bytealg.MakeNoZero"], unfollowed := true, recurses := true, named := ["math/bits.deBruijn64tab"], plainKeys := false, apart := false, laid := [("math/bits.deBruijn64tab", laid_math_bits_deBruijn64tab)] }
def TxnFirstSaid : Prop := txnFirstRow.holds Tryz.pinned (OpenSpec.ofChange txnFirstSpec)

/-- ITS FALSE NEIGHBOUR: 'it returns false'. Refute it at one input. -/
def txnFirstWrong : ChangeSpec := { name := "txnFirst", fn := fun _ => fun
  | [d1, d2, d3, d4] => { results := [.lit (.bool false)], args := [d1, d2, d3, d4] }
  | _ => none }
def TxnFirstWrongFalsely : Prop := txnFirstRow.holds Tryz.pinned (OpenSpec.ofChange txnFirstWrong)

/- THE SECOND FORM. 'bulk': how many values and letters a reading holds, each counted each time it is reached (what is shared counts as often as it is met; a slice's spare places count too). A statement '..UptoSaid' is the law's where the arguments, and the package variables that the reading takes, are together of bulk at most 1048576: NARROWER than '..Said'. Prove '..Said' where nothing that the law and all that it calls make is longer than what came in: it says more and counts as full. Else prove '..UptoSaid'. A law counts once. -/
mutual
def uptoBulk {H : Type} : DataW H → Nat
  | .lit (.string bytes) => bytes.length + 1
  | .lit _ => 1
  | .nil => 1
  | .ptr d => uptoBulk d + 1
  | .slice elems spare => uptoBulkAll elems + uptoBulkAll spare + 1
  | .agg parts => uptoBulkAll parts + 1
  | .iface _ d => uptoBulk d + 1
  | .map entries => uptoBulkEntries entries + 1
  | .held _ => 1
def uptoBulkAll {H : Type} : List (DataW H) → Nat
  | [] => 0
  | d :: r => uptoBulk d + uptoBulkAll r
def uptoBulkEntries {H : Type} : List (Lit × DataW H) → Nat
  | [] => 0
  | x :: r => uptoBulkEntry x + uptoBulkEntries r
def uptoBulkEntry {H : Type} : Lit × DataW H → Nat
  | (.string bytes, d) => bytes.length + uptoBulk d + 1
  | (_, d) => uptoBulk d + 1
 end
def uptoSmall : (H : Type) → List (DataW H) → Bool := fun _ ds => decide (uptoBulkAll ds ≤ 1048576)
def OpenSpec.upto (s : _root_.Go.ChangeSpec) : _root_.Go.OpenSpec := { _root_.Go.OpenSpec.ofChange s with cond := some uptoSmall }

/-- 'platenlaw29.TidyGains', WHERE WHAT IT READS IS OF BULK AT MOST 1048576: true; the input reads as it did. -/
def tidyGainsUptoRow : OpenClaim := { program := "ytohmkigjifhddaagreatdoor", sum := "27bdd7bb49957861f781b98846addcfbe9578cf9434fb32c2ed4eb0c460590a9", func := "platen/platenlaw29.TidyGains", spec := "tidyGains", inPlace := ["internal/abi.NoEscape", "internal/bytealg.MakeNoZero"], unfollowed := true, recurses := true, named := ["math/bits.deBruijn64tab"], plainKeys := false, apart := false, laid := [("math/bits.deBruijn64tab", laid_math_bits_deBruijn64tab)], narrowed := true }
def TidyGainsUptoSaid : Prop := tidyGainsUptoRow.holds Tryz.pinned (OpenSpec.upto tidyGainsSpec)

/-- 'platenlaw26.StoreNil', WHERE WHAT IT READS IS OF BULK AT MOST 1048576: true; the input reads as it did. -/
def storeNilUptoRow : OpenClaim := { program := "ytohmkigjifhddaagreatdoor", sum := "27bdd7bb49957861f781b98846addcfbe9578cf9434fb32c2ed4eb0c460590a9", func := "platen/platenlaw26.StoreNil", spec := "storeNil", inPlace := ["internal/abi.NoEscape", "internal/bytealg.MakeNoZero"], unfollowed := true, recurses := true, named := ["math/bits.deBruijn64tab"], plainKeys := false, apart := false, laid := [("math/bits.deBruijn64tab", laid_math_bits_deBruijn64tab)], narrowed := true }
def StoreNilUptoSaid : Prop := storeNilUptoRow.holds Tryz.pinned (OpenSpec.upto storeNilSpec)

/-- 'platenlaw27.SingleBusy', WHERE WHAT IT READS IS OF BULK AT MOST 1048576: true; the input reads as it did. -/
def singleBusyUptoRow : OpenClaim := { program := "ytohmkigjifhddaagreatdoor", sum := "27bdd7bb49957861f781b98846addcfbe9578cf9434fb32c2ed4eb0c460590a9", func := "platen/platenlaw27.SingleBusy", spec := "singleBusy", inPlace := ["internal/abi.NoEscape", "internal/bytealg.MakeNoZero"], unfollowed := true, recurses := true, named := ["math/bits.deBruijn64tab"], plainKeys := false, apart := false, laid := [("math/bits.deBruijn64tab", laid_math_bits_deBruijn64tab)], narrowed := true }
def SingleBusyUptoSaid : Prop := singleBusyUptoRow.holds Tryz.pinned (OpenSpec.upto singleBusySpec)

/-- 'platenlaw29.TidyBusy', WHERE WHAT IT READS IS OF BULK AT MOST 1048576: true; the input reads as it did. -/
def tidyBusyUptoRow : OpenClaim := { program := "ytohmkigjifhddaagreatdoor", sum := "27bdd7bb49957861f781b98846addcfbe9578cf9434fb32c2ed4eb0c460590a9", func := "platen/platenlaw29.TidyBusy", spec := "tidyBusy", inPlace := ["internal/abi.NoEscape", "internal/bytealg.MakeNoZero"], unfollowed := true, recurses := true, named := ["math/bits.deBruijn64tab"], plainKeys := false, apart := false, laid := [("math/bits.deBruijn64tab", laid_math_bits_deBruijn64tab)], narrowed := true }
def TidyBusyUptoSaid : Prop := tidyBusyUptoRow.holds Tryz.pinned (OpenSpec.upto tidyBusySpec)

/-- 'platenlaw28.TxnWaits', WHERE WHAT IT READS IS OF BULK AT MOST 1048576: true; the input reads as it did. -/
def txnWaitsUptoRow : OpenClaim := { program := "ytohmkigjifhddaagreatdoor", sum := "27bdd7bb49957861f781b98846addcfbe9578cf9434fb32c2ed4eb0c460590a9", func := "platen/platenlaw28.TxnWaits", spec := "txnWaits", inPlace := ["internal/abi.NoEscape", "internal/bytealg.MakeNoZero"], unfollowed := true, recurses := true, named := ["math/bits.deBruijn64tab"], plainKeys := false, apart := false, laid := [("math/bits.deBruijn64tab", laid_math_bits_deBruijn64tab)], narrowed := true }
def TxnWaitsUptoSaid : Prop := txnWaitsUptoRow.holds Tryz.pinned (OpenSpec.upto txnWaitsSpec)

/-- 'platenlaw28.TxnFirst', WHERE WHAT IT READS IS OF BULK AT MOST 1048576: true; the input reads as it did. -/
def txnFirstUptoRow : OpenClaim := { program := "ytohmkigjifhddaagreatdoor", sum := "27bdd7bb49957861f781b98846addcfbe9578cf9434fb32c2ed4eb0c460590a9", func := "platen/platenlaw28.TxnFirst", spec := "txnFirst", inPlace := ["internal/abi.NoEscape", "internal/bytealg.MakeNoZero"], unfollowed := true, recurses := true, named := ["math/bits.deBruijn64tab"], plainKeys := false, apart := false, laid := [("math/bits.deBruijn64tab", laid_math_bits_deBruijn64tab)], narrowed := true }
def TxnFirstUptoSaid : Prop := txnFirstUptoRow.holds Tryz.pinned (OpenSpec.upto txnFirstSpec)

end Rows
end Go.Proofs.YtohmkigjifhddaaGreatDoor
