/-
  DERIVED. GIVEN WITH THE SEED: THE CARDS: each row of YteajgnoimbdkbaaDoorRows.lean that lists a variable, with what it lists TIED to the program's text (the seventh form; the later family's looks); each row that meets fmt, with fmt's text TOLD by the authors' own Lean function (tested against real Go, not proved from fmt's source: count such statements apart). THE CARD IS WHAT COUNTS. Prove the row's statement (the work); the ties are given (YteajgnoimbdkbaaDoorTie.lean); close each card by the builder's one call (the guide's Derived/Test/ToyasCard.lean, 'card_holds'). Laid BY PROGRAM, IN A SANDBOX (cutbox-door.mjs). By AI agents, Wed Nov 11 2026. No macro, syntax, notation, axiom, sorry.
-/
import Derived.Test.YteajgnoimbdkbaaDoorRows
import GoSem.ClaimSeven
namespace Go.Proofs.YteajgnoimbdkbaaDoor
namespace Rows

/-- THE TIED CARD OF 'isthmuslaw15.TxsBack'. -/
def txsBackCard : Claim7 := { stood := { row := txsBackRow, standIns := [], harness := (true, "da7fdb79ae6f43866e2b51951283a1cd327f8aab3a610278a197f1f27c7cd3c8"), looks := false }, kinds := [], alts := [], laidByText := true, laidKinds := [.data, .pinned], laidTests := true, laidLooks := .later }
def TxsBackCardSaid : Prop := Claim7.holds Tryd.pinned (.plain (OpenSpec.ofChange txsBackSpec)) txsBackCard

/-- THE SECOND FORM's CARD OF 'isthmuslaw15.TxsBack'. -/
def txsBackUptoCard : Claim7 := { stood := { row := txsBackUptoRow, standIns := [], harness := (true, "da7fdb79ae6f43866e2b51951283a1cd327f8aab3a610278a197f1f27c7cd3c8"), looks := false }, kinds := [], alts := [], laidByText := true, laidKinds := [.data, .pinned], laidTests := true, laidLooks := .later }
def TxsBackUptoCardSaid : Prop := Claim7.holds Tryd.pinned (.plain (OpenSpec.upto txsBackSpec)) txsBackUptoCard
end Rows
end Go.Proofs.YteajgnoimbdkbaaDoor
