/-
  DERIVED. GIVEN WITH THE SEED: THE CARDS: each row of YtbopkepjbifhhaaGreatDoorRows.lean that lists a variable, with what it lists TIED to the program's text (the seventh form; the later family's looks); each row that meets fmt, with fmt's text TOLD by the authors' own Lean function (tested against real Go, not proved from fmt's source: count such statements apart). THE CARD IS WHAT COUNTS. Prove the row's statement (the work); the ties are given (YtbopkepjbifhhaaGreatDoorTie.lean); close each card by the builder's one call (the guide's Derived/Test/ToyasCard.lean, 'card_holds'). Laid BY PROGRAM, IN A SANDBOX (cutbox-door.mjs). By AI agents, Wed Nov 11 2026. No macro, syntax, notation, axiom, sorry.
-/
import Derived.Test.YtbopkepjbifhhaaGreatDoorRows
import GoSem.ClaimSeven
namespace Go.Proofs.YtbopkepjbifhhaaGreatDoor
namespace Rows

/-- THE TIED CARD OF 'isthmuslaw14.CoinTraces'. -/
def coinTracesCard : Claim7 := { stood := { row := coinTracesRow, standIns := [], harness := (true, "29b71e9b372638506f37788fc21a922b215fc61983350650cef9ed5b114c3b83"), looks := true }, kinds := [], alts := [], laidByText := true, laidKinds := [.data, .handle, .data, .pinned], laidTests := true, laidLooks := .later }
def CoinTracesCardSaid : Prop := Claim7.holds Tryz.pinned (.plain (OpenSpec.ofChange coinTracesSpec)) coinTracesCard

/-- THE SECOND FORM's CARD OF 'isthmuslaw14.CoinTraces'. -/
def coinTracesUptoCard : Claim7 := { stood := { row := coinTracesUptoRow, standIns := [], harness := (true, "29b71e9b372638506f37788fc21a922b215fc61983350650cef9ed5b114c3b83"), looks := true }, kinds := [], alts := [], laidByText := true, laidKinds := [.data, .handle, .data, .pinned], laidTests := true, laidLooks := .later }
def CoinTracesUptoCardSaid : Prop := Claim7.holds Tryz.pinned (.plain (OpenSpec.upto coinTracesSpec)) coinTracesUptoCard
end Rows
end Go.Proofs.YtbopkepjbifhhaaGreatDoor
