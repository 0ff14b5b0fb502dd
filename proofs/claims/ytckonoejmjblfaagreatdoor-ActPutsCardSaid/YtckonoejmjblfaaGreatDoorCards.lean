/-
  DERIVED. GIVEN WITH THE SEED: THE CARDS: each row of YtckonoejmjblfaaGreatDoorRows.lean that lists a variable, with what it lists TIED to the program's text (the seventh form; the later family's looks); each row that meets fmt, with fmt's text TOLD by the authors' own Lean function (tested against real Go, not proved from fmt's source: count such statements apart). THE CARD IS WHAT COUNTS. Prove the row's statement (the work); the ties are given (YtckonoejmjblfaaGreatDoorTie.lean); close each card by the builder's one call (the guide's Derived/Test/ToyasCard.lean, 'card_holds'). Laid BY PROGRAM, IN A SANDBOX (cutbox-door.mjs). By AI agents, Wed Nov 11 2026. No macro, syntax, notation, axiom, sorry.
-/
import Derived.Test.YtckonoejmjblfaaGreatDoorRows
import GoSem.ClaimSeven
namespace Go.Proofs.YtckonoejmjblfaaGreatDoor
namespace Rows

/-- THE TIED CARD OF 'semblancelaw12.PrintPuts'. -/
def printPutsCard : Claim7 := { stood := { row := printPutsRow, standIns := [], harness := (true, "05cc943e021091ec1aa653880370eb1f883afce6e35ae2b54feb484f61356f91"), looks := false }, kinds := [], alts := [], laidByText := true, laidKinds := [.data, .pinned], laidTests := true, laidLooks := .later }
def PrintPutsCardSaid : Prop := Claim7.holds Tryz.pinned (.plain (OpenSpec.ofChange printPutsSpec)) printPutsCard

/-- THE TIED CARD OF 'semblancelaw12.PrintLong'. -/
def printLongCard : Claim7 := { stood := { row := printLongRow, standIns := [], harness := (true, "05cc943e021091ec1aa653880370eb1f883afce6e35ae2b54feb484f61356f91"), looks := false }, kinds := [], alts := [], laidByText := true, laidKinds := [.data, .pinned], laidTests := true, laidLooks := .later }
def PrintLongCardSaid : Prop := Claim7.holds Tryz.pinned (.plain (OpenSpec.ofChange printLongSpec)) printLongCard

/-- THE TIED CARD OF 'semblancelaw13.FormatOf'. -/
def formatOfCard : Claim7 := { stood := { row := formatOfRow, standIns := [], harness := (true, "05cc943e021091ec1aa653880370eb1f883afce6e35ae2b54feb484f61356f91"), looks := false }, kinds := [], alts := [], laidByText := true, laidKinds := [.data, .pinned], laidTests := true, laidLooks := .later }
def FormatOfCardSaid : Prop := Claim7.holds Tryz.pinned (.plain (OpenSpec.ofChange formatOfSpec)) formatOfCard

/-- THE TIED CARD OF 'semblancelaw13.FormatTwice'. -/
def formatTwiceCard : Claim7 := { stood := { row := formatTwiceRow, standIns := [], harness := (true, "05cc943e021091ec1aa653880370eb1f883afce6e35ae2b54feb484f61356f91"), looks := false }, kinds := [], alts := [], laidByText := true, laidKinds := [.data, .pinned], laidTests := true, laidLooks := .later }
def FormatTwiceCardSaid : Prop := Claim7.holds Tryz.pinned (.plain (OpenSpec.ofChange formatTwiceSpec)) formatTwiceCard

/-- THE TIED CARD OF 'semblancelaw13.FormatSame'. -/
def formatSameCard : Claim7 := { stood := { row := formatSameRow, standIns := [], harness := (true, "05cc943e021091ec1aa653880370eb1f883afce6e35ae2b54feb484f61356f91"), looks := false }, kinds := [], alts := [], laidByText := true, laidKinds := [.data, .pinned], laidTests := true, laidLooks := .later }
def FormatSameCardSaid : Prop := Claim7.holds Tryz.pinned (.plain (OpenSpec.ofChange formatSameSpec)) formatSameCard

/-- THE TIED CARD OF 'semblancelaw08.ActPuts'. -/
def actPutsCard : Claim7 := { stood := { row := actPutsRow, standIns := [], harness := (true, "05cc943e021091ec1aa653880370eb1f883afce6e35ae2b54feb484f61356f91"), looks := false }, kinds := [], alts := [], laidByText := true, laidKinds := [.data, .pinned], laidTests := true, laidLooks := .later }
def ActPutsCardSaid : Prop := Claim7.holds Tryz.pinned (.plain (OpenSpec.ofChange actPutsSpec)) actPutsCard

/-- THE SECOND FORM's CARD OF 'semblancelaw12.PrintPuts'. -/
def printPutsUptoCard : Claim7 := { stood := { row := printPutsUptoRow, standIns := [], harness := (true, "05cc943e021091ec1aa653880370eb1f883afce6e35ae2b54feb484f61356f91"), looks := false }, kinds := [], alts := [], laidByText := true, laidKinds := [.data, .pinned], laidTests := true, laidLooks := .later }
def PrintPutsUptoCardSaid : Prop := Claim7.holds Tryz.pinned (.plain (OpenSpec.upto printPutsSpec)) printPutsUptoCard

/-- THE SECOND FORM's CARD OF 'semblancelaw12.PrintLong'. -/
def printLongUptoCard : Claim7 := { stood := { row := printLongUptoRow, standIns := [], harness := (true, "05cc943e021091ec1aa653880370eb1f883afce6e35ae2b54feb484f61356f91"), looks := false }, kinds := [], alts := [], laidByText := true, laidKinds := [.data, .pinned], laidTests := true, laidLooks := .later }
def PrintLongUptoCardSaid : Prop := Claim7.holds Tryz.pinned (.plain (OpenSpec.upto printLongSpec)) printLongUptoCard

/-- THE SECOND FORM's CARD OF 'semblancelaw13.FormatOf'. -/
def formatOfUptoCard : Claim7 := { stood := { row := formatOfUptoRow, standIns := [], harness := (true, "05cc943e021091ec1aa653880370eb1f883afce6e35ae2b54feb484f61356f91"), looks := false }, kinds := [], alts := [], laidByText := true, laidKinds := [.data, .pinned], laidTests := true, laidLooks := .later }
def FormatOfUptoCardSaid : Prop := Claim7.holds Tryz.pinned (.plain (OpenSpec.upto formatOfSpec)) formatOfUptoCard

/-- THE SECOND FORM's CARD OF 'semblancelaw13.FormatTwice'. -/
def formatTwiceUptoCard : Claim7 := { stood := { row := formatTwiceUptoRow, standIns := [], harness := (true, "05cc943e021091ec1aa653880370eb1f883afce6e35ae2b54feb484f61356f91"), looks := false }, kinds := [], alts := [], laidByText := true, laidKinds := [.data, .pinned], laidTests := true, laidLooks := .later }
def FormatTwiceUptoCardSaid : Prop := Claim7.holds Tryz.pinned (.plain (OpenSpec.upto formatTwiceSpec)) formatTwiceUptoCard

/-- THE SECOND FORM's CARD OF 'semblancelaw13.FormatSame'. -/
def formatSameUptoCard : Claim7 := { stood := { row := formatSameUptoRow, standIns := [], harness := (true, "05cc943e021091ec1aa653880370eb1f883afce6e35ae2b54feb484f61356f91"), looks := false }, kinds := [], alts := [], laidByText := true, laidKinds := [.data, .pinned], laidTests := true, laidLooks := .later }
def FormatSameUptoCardSaid : Prop := Claim7.holds Tryz.pinned (.plain (OpenSpec.upto formatSameSpec)) formatSameUptoCard

/-- THE SECOND FORM's CARD OF 'semblancelaw08.ActPuts'. -/
def actPutsUptoCard : Claim7 := { stood := { row := actPutsUptoRow, standIns := [], harness := (true, "05cc943e021091ec1aa653880370eb1f883afce6e35ae2b54feb484f61356f91"), looks := false }, kinds := [], alts := [], laidByText := true, laidKinds := [.data, .pinned], laidTests := true, laidLooks := .later }
def ActPutsUptoCardSaid : Prop := Claim7.holds Tryz.pinned (.plain (OpenSpec.upto actPutsSpec)) actPutsUptoCard
end Rows
end Go.Proofs.YtckonoejmjblfaaGreatDoor
