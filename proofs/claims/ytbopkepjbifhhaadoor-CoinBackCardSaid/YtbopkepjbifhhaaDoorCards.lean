/-
  DERIVED. GIVEN WITH THE SEED: THE CARDS: each row of YtbopkepjbifhhaaDoorRows.lean that lists a variable, with what it lists TIED to the program's text (the seventh form; the later family's looks); each row that meets fmt, with fmt's text TOLD by the authors' own Lean function (tested against real Go, not proved from fmt's source: count such statements apart). THE CARD IS WHAT COUNTS. Prove the row's statement (the work); the ties are given (YtbopkepjbifhhaaDoorTie.lean); close each card by the builder's one call (the guide's Derived/Test/ToyasCard.lean, 'card_holds'). Laid BY PROGRAM, IN A SANDBOX (cutbox-door.mjs). By AI agents, Wed Nov 11 2026. No macro, syntax, notation, axiom, sorry.
-/
import Derived.Test.YtbopkepjbifhhaaDoorRows
import GoSem.ClaimSeven
namespace Go.Proofs.YtbopkepjbifhhaaDoor
namespace Rows

/-- THE TIED CARD OF 'isthmuslaw14.CoinSums'. -/
def coinSumsCard : Claim7 := { stood := { row := coinSumsRow, standIns := [], harness := (true, "8499d2702bfd69ae43ed28d12009db823204c3ad9e8046539f395c9c2e877c6e"), looks := true }, kinds := [], alts := [], laidByText := true, laidKinds := [.data, .handle, .pinned], laidTests := true, laidLooks := .later }
def CoinSumsCardSaid : Prop := Claim7.holds Tryd.pinned (.plain (OpenSpec.ofChange coinSumsSpec)) coinSumsCard

/-- THE TIED CARD OF 'isthmuslaw14.CoinAmounts'. -/
def coinAmountsCard : Claim7 := { stood := { row := coinAmountsRow, standIns := [], harness := (true, "8499d2702bfd69ae43ed28d12009db823204c3ad9e8046539f395c9c2e877c6e"), looks := true }, kinds := [], alts := [], laidByText := true, laidKinds := [.data, .handle, .pinned], laidTests := true, laidLooks := .later }
def CoinAmountsCardSaid : Prop := Claim7.holds Tryd.pinned (.plain (OpenSpec.ofChange coinAmountsSpec)) coinAmountsCard

/-- THE TIED CARD OF 'isthmuslaw14.CoinWays'. -/
def coinWaysCard : Claim7 := { stood := { row := coinWaysRow, standIns := [], harness := (true, "8499d2702bfd69ae43ed28d12009db823204c3ad9e8046539f395c9c2e877c6e"), looks := true }, kinds := [], alts := [], laidByText := true, laidKinds := [.data, .handle, .pinned], laidTests := true, laidLooks := .later }
def CoinWaysCardSaid : Prop := Claim7.holds Tryd.pinned (.plain (OpenSpec.ofChange coinWaysSpec)) coinWaysCard

/-- THE TIED CARD OF 'isthmuslaw14.CoinBack'. -/
def coinBackCard : Claim7 := { stood := { row := coinBackRow, standIns := [], harness := (true, "8499d2702bfd69ae43ed28d12009db823204c3ad9e8046539f395c9c2e877c6e"), looks := true }, kinds := [], alts := [], laidByText := true, laidKinds := [.data, .data, .pinned], laidTests := true, laidLooks := .later }
def CoinBackCardSaid : Prop := Claim7.holds Tryd.pinned (.plain (OpenSpec.ofChange coinBackSpec)) coinBackCard

/-- THE SECOND FORM's CARD OF 'isthmuslaw14.CoinSums'. -/
def coinSumsUptoCard : Claim7 := { stood := { row := coinSumsUptoRow, standIns := [], harness := (true, "8499d2702bfd69ae43ed28d12009db823204c3ad9e8046539f395c9c2e877c6e"), looks := true }, kinds := [], alts := [], laidByText := true, laidKinds := [.data, .handle, .pinned], laidTests := true, laidLooks := .later }
def CoinSumsUptoCardSaid : Prop := Claim7.holds Tryd.pinned (.plain (OpenSpec.upto coinSumsSpec)) coinSumsUptoCard

/-- THE SECOND FORM's CARD OF 'isthmuslaw14.CoinAmounts'. -/
def coinAmountsUptoCard : Claim7 := { stood := { row := coinAmountsUptoRow, standIns := [], harness := (true, "8499d2702bfd69ae43ed28d12009db823204c3ad9e8046539f395c9c2e877c6e"), looks := true }, kinds := [], alts := [], laidByText := true, laidKinds := [.data, .handle, .pinned], laidTests := true, laidLooks := .later }
def CoinAmountsUptoCardSaid : Prop := Claim7.holds Tryd.pinned (.plain (OpenSpec.upto coinAmountsSpec)) coinAmountsUptoCard

/-- THE SECOND FORM's CARD OF 'isthmuslaw14.CoinWays'. -/
def coinWaysUptoCard : Claim7 := { stood := { row := coinWaysUptoRow, standIns := [], harness := (true, "8499d2702bfd69ae43ed28d12009db823204c3ad9e8046539f395c9c2e877c6e"), looks := true }, kinds := [], alts := [], laidByText := true, laidKinds := [.data, .handle, .pinned], laidTests := true, laidLooks := .later }
def CoinWaysUptoCardSaid : Prop := Claim7.holds Tryd.pinned (.plain (OpenSpec.upto coinWaysSpec)) coinWaysUptoCard

/-- THE SECOND FORM's CARD OF 'isthmuslaw14.CoinBack'. -/
def coinBackUptoCard : Claim7 := { stood := { row := coinBackUptoRow, standIns := [], harness := (true, "8499d2702bfd69ae43ed28d12009db823204c3ad9e8046539f395c9c2e877c6e"), looks := true }, kinds := [], alts := [], laidByText := true, laidKinds := [.data, .data, .pinned], laidTests := true, laidLooks := .later }
def CoinBackUptoCardSaid : Prop := Claim7.holds Tryd.pinned (.plain (OpenSpec.upto coinBackSpec)) coinBackUptoCard
end Rows
end Go.Proofs.YtbopkepjbifhhaaDoor
