/-
  DERIVED. GIVEN WITH THE SEED: THE CARDS: each row of YteajgnoimbdkbaaGreatDoorRows.lean that lists a variable, with what it lists TIED to the program's text (the seventh form; the later family's looks); each row that meets fmt, with fmt's text TOLD by the authors' own Lean function (tested against real Go, not proved from fmt's source: count such statements apart). THE CARD IS WHAT COUNTS. Prove the row's statement (the work); the ties are given (YteajgnoimbdkbaaGreatDoorTie.lean); close each card by the builder's one call (the guide's Derived/Test/ToyasCard.lean, 'card_holds'). Laid BY PROGRAM, IN A SANDBOX (cutbox-door.mjs). By AI agents, Wed Nov 11 2026. No macro, syntax, notation, axiom, sorry.
-/
import Derived.Test.YteajgnoimbdkbaaGreatDoorRows
import GoSem.ClaimSeven
namespace Go.Proofs.YteajgnoimbdkbaaGreatDoor
namespace Rows

/-- THE TIED CARD OF 'isthmuslaw15.TxsShapes'. -/
def txsShapesCard : Claim7 := { stood := { row := txsShapesRow, standIns := [], harness := (true, "f8b810e8e003c3ba631607627fb434331323f9a7996d5ff17045d51d39636b51"), looks := true }, kinds := [], alts := [], laidByText := true, laidKinds := [.data, .handle, .pinned], laidTests := true, laidLooks := .later }
def TxsShapesCardSaid : Prop := Claim7.holds Tryz.pinned (.plain (OpenSpec.ofChange txsShapesSpec)) txsShapesCard

/-- THE TIED CARD OF 'isthmuslaw15.TxsBytes'. -/
def txsBytesCard : Claim7 := { stood := { row := txsBytesRow, standIns := [], harness := (true, "f8b810e8e003c3ba631607627fb434331323f9a7996d5ff17045d51d39636b51"), looks := true }, kinds := [], alts := [], laidByText := true, laidKinds := [.data, .handle, .pinned], laidTests := true, laidLooks := .later }
def TxsBytesCardSaid : Prop := Claim7.holds Tryz.pinned (.plain (OpenSpec.ofChange txsBytesSpec)) txsBytesCard

/-- THE TIED CARD OF 'isthmuslaw15.TxsReads'. -/
def txsReadsCard : Claim7 := { stood := { row := txsReadsRow, standIns := [], harness := (true, "f8b810e8e003c3ba631607627fb434331323f9a7996d5ff17045d51d39636b51"), looks := true }, kinds := [], alts := [], laidByText := true, laidKinds := [.data, .handle, .data, .pinned], laidTests := true, laidLooks := .later }
def TxsReadsCardSaid : Prop := Claim7.holds Tryz.pinned (.plain (OpenSpec.ofChange txsReadsSpec)) txsReadsCard

/-- THE TIED CARD OF 'isthmuslaw15.TxsVerify'. -/
def txsVerifyCard : Claim7 := { stood := { row := txsVerifyRow, standIns := [], harness := (true, "f8b810e8e003c3ba631607627fb434331323f9a7996d5ff17045d51d39636b51"), looks := true }, kinds := [], alts := [], laidByText := true, laidKinds := [.data, .handle, .data, .pinned], laidTests := true, laidLooks := .later }
def TxsVerifyCardSaid : Prop := Claim7.holds Tryz.pinned (.plain (OpenSpec.ofChange txsVerifySpec)) txsVerifyCard

/-- THE SECOND FORM's CARD OF 'isthmuslaw15.TxsShapes'. -/
def txsShapesUptoCard : Claim7 := { stood := { row := txsShapesUptoRow, standIns := [], harness := (true, "f8b810e8e003c3ba631607627fb434331323f9a7996d5ff17045d51d39636b51"), looks := true }, kinds := [], alts := [], laidByText := true, laidKinds := [.data, .handle, .pinned], laidTests := true, laidLooks := .later }
def TxsShapesUptoCardSaid : Prop := Claim7.holds Tryz.pinned (.plain (OpenSpec.upto txsShapesSpec)) txsShapesUptoCard

/-- THE SECOND FORM's CARD OF 'isthmuslaw15.TxsBytes'. -/
def txsBytesUptoCard : Claim7 := { stood := { row := txsBytesUptoRow, standIns := [], harness := (true, "f8b810e8e003c3ba631607627fb434331323f9a7996d5ff17045d51d39636b51"), looks := true }, kinds := [], alts := [], laidByText := true, laidKinds := [.data, .handle, .pinned], laidTests := true, laidLooks := .later }
def TxsBytesUptoCardSaid : Prop := Claim7.holds Tryz.pinned (.plain (OpenSpec.upto txsBytesSpec)) txsBytesUptoCard

/-- THE SECOND FORM's CARD OF 'isthmuslaw15.TxsReads'. -/
def txsReadsUptoCard : Claim7 := { stood := { row := txsReadsUptoRow, standIns := [], harness := (true, "f8b810e8e003c3ba631607627fb434331323f9a7996d5ff17045d51d39636b51"), looks := true }, kinds := [], alts := [], laidByText := true, laidKinds := [.data, .handle, .data, .pinned], laidTests := true, laidLooks := .later }
def TxsReadsUptoCardSaid : Prop := Claim7.holds Tryz.pinned (.plain (OpenSpec.upto txsReadsSpec)) txsReadsUptoCard

/-- THE SECOND FORM's CARD OF 'isthmuslaw15.TxsVerify'. -/
def txsVerifyUptoCard : Claim7 := { stood := { row := txsVerifyUptoRow, standIns := [], harness := (true, "f8b810e8e003c3ba631607627fb434331323f9a7996d5ff17045d51d39636b51"), looks := true }, kinds := [], alts := [], laidByText := true, laidKinds := [.data, .handle, .data, .pinned], laidTests := true, laidLooks := .later }
def TxsVerifyUptoCardSaid : Prop := Claim7.holds Tryz.pinned (.plain (OpenSpec.upto txsVerifySpec)) txsVerifyUptoCard
end Rows
end Go.Proofs.YteajgnoimbdkbaaGreatDoor
