/-
  DERIVED. GIVEN WITH THE SEED: THE CARDS: each row of YtadeehilamokkaaGreatDoorRows.lean that lists a variable, with what it lists TIED to the program's text (the seventh form; the later family's looks); each row that meets fmt, with fmt's text TOLD by the authors' own Lean function (tested against real Go, not proved from fmt's source: count such statements apart). THE CARD IS WHAT COUNTS. Prove the row's statement (the work); the ties are given (YtadeehilamokkaaGreatDoorTie.lean); close each card by the builder's one call (the guide's Derived/Test/ToyasCard.lean, 'card_holds'). Laid BY PROGRAM, IN A SANDBOX (cutbox-door.mjs). By AI agents, Wed Nov 11 2026. No macro, syntax, notation, axiom, sorry.
-/
import Derived.Test.YtadeehilamokkaaGreatDoorRows
import GoSem.ClaimSeven
namespace Go.Proofs.YtadeehilamokkaaGreatDoor
namespace Rows

/-- THE TIED CARD OF 'maculaturelaw01.CutStrings'. -/
def cutStringsCard : Claim7 := { stood := { row := cutStringsRow, standIns := [], harness := (true, "35b1f8f6d9a3bda12da3589a3b7cc03f41d047318345d815f1efe68ea677edf1"), looks := true }, kinds := [], alts := [], goes := true, laidByText := true, laidKinds := [.data, .handle, .pinned], laidTests := true, laidLooks := .later }
def CutStringsCardSaid : Prop := Claim7.holds Tryz.pinned (.plain (OpenSpec.ofChange cutStringsSpec)) cutStringsCard

/-- THE TIED CARD OF 'maculaturelaw01.CutRead'. -/
def cutReadCard : Claim7 := { stood := { row := cutReadRow, standIns := [], harness := (true, "35b1f8f6d9a3bda12da3589a3b7cc03f41d047318345d815f1efe68ea677edf1"), looks := true }, kinds := [], alts := [], goes := true, laidByText := true, laidKinds := [.data, .handle, .pinned], laidTests := true, laidLooks := .later }
def CutReadCardSaid : Prop := Claim7.holds Tryz.pinned (.plain (OpenSpec.ofChange cutReadSpec)) cutReadCard

/-- THE TIED CARD OF 'maculaturelaw01.CutKnown'. -/
def cutKnownCard : Claim7 := { stood := { row := cutKnownRow, standIns := [], harness := (true, "35b1f8f6d9a3bda12da3589a3b7cc03f41d047318345d815f1efe68ea677edf1"), looks := true }, kinds := [], alts := [], goes := true, laidByText := true, laidKinds := [.data, .handle, .pinned], laidTests := true, laidLooks := .later }
def CutKnownCardSaid : Prop := Claim7.holds Tryz.pinned (.plain (OpenSpec.ofChange cutKnownSpec)) cutKnownCard

/-- THE SECOND FORM's CARD OF 'maculaturelaw01.CutStrings'. -/
def cutStringsUptoCard : Claim7 := { stood := { row := cutStringsUptoRow, standIns := [], harness := (true, "35b1f8f6d9a3bda12da3589a3b7cc03f41d047318345d815f1efe68ea677edf1"), looks := true }, kinds := [], alts := [], goes := true, laidByText := true, laidKinds := [.data, .handle, .pinned], laidTests := true, laidLooks := .later }
def CutStringsUptoCardSaid : Prop := Claim7.holds Tryz.pinned (.plain (OpenSpec.upto cutStringsSpec)) cutStringsUptoCard

/-- THE SECOND FORM's CARD OF 'maculaturelaw01.CutRead'. -/
def cutReadUptoCard : Claim7 := { stood := { row := cutReadUptoRow, standIns := [], harness := (true, "35b1f8f6d9a3bda12da3589a3b7cc03f41d047318345d815f1efe68ea677edf1"), looks := true }, kinds := [], alts := [], goes := true, laidByText := true, laidKinds := [.data, .handle, .pinned], laidTests := true, laidLooks := .later }
def CutReadUptoCardSaid : Prop := Claim7.holds Tryz.pinned (.plain (OpenSpec.upto cutReadSpec)) cutReadUptoCard

/-- THE SECOND FORM's CARD OF 'maculaturelaw01.CutKnown'. -/
def cutKnownUptoCard : Claim7 := { stood := { row := cutKnownUptoRow, standIns := [], harness := (true, "35b1f8f6d9a3bda12da3589a3b7cc03f41d047318345d815f1efe68ea677edf1"), looks := true }, kinds := [], alts := [], goes := true, laidByText := true, laidKinds := [.data, .handle, .pinned], laidTests := true, laidLooks := .later }
def CutKnownUptoCardSaid : Prop := Claim7.holds Tryz.pinned (.plain (OpenSpec.upto cutKnownSpec)) cutKnownUptoCard
end Rows
end Go.Proofs.YtadeehilamokkaaGreatDoor
