/-
  DERIVED. GIVEN WITH THE SEED: THE CARDS: each row of YtkklkkppedociaaGreatDoorRows.lean that lists a variable, with what it lists TIED to the program's text (the seventh form; the later family's looks); each row that meets fmt, with fmt's text TOLD by the authors' own Lean function (tested against real Go, not proved from fmt's source: count such statements apart). THE CARD IS WHAT COUNTS. Prove the row's statement (the work); the ties are given (YtkklkkppedociaaGreatDoorTie.lean); close each card by the builder's one call (the guide's Derived/Test/ToyasCard.lean, 'card_holds'). Laid BY PROGRAM, IN A SANDBOX (cutbox-door.mjs). By AI agents, Wed Nov 11 2026. No macro, syntax, notation, axiom, sorry.
-/
import Derived.Test.YtkklkkppedociaaGreatDoorRows
import GoSem.ClaimSeven
namespace Go.Proofs.YtkklkkppedociaaGreatDoor
namespace Rows

/-- THE TIED CARD OF 'semblancelaw06.ExprParses'. -/
def exprParsesCard : Claim7 := { stood := { row := exprParsesRow, standIns := [], harness := (true, "efc4a0331b6ce58738a41fc498ee44494dca8a47b88252a58b62eac393e80db4"), looks := false }, kinds := [], alts := [], laidByText := true, laidKinds := [.data, .pinned], laidTests := true, laidLooks := .later }
def ExprParsesCardSaid : Prop := Claim7.holds Tryz.pinned (.plain (OpenSpec.ofChange exprParsesSpec)) exprParsesCard

/-- THE TIED CARD OF 'semblancelaw06.ExprReads'. -/
def exprReadsCard : Claim7 := { stood := { row := exprReadsRow, standIns := [], harness := (true, "efc4a0331b6ce58738a41fc498ee44494dca8a47b88252a58b62eac393e80db4"), looks := false }, kinds := [], alts := [], laidByText := true, laidKinds := [.data, .pinned], laidTests := true, laidLooks := .later }
def ExprReadsCardSaid : Prop := Claim7.holds Tryz.pinned (.plain (OpenSpec.ofChange exprReadsSpec)) exprReadsCard

/-- THE TIED CARD OF 'semblancelaw09.TransPuts'. -/
def transPutsCard : Claim7 := { stood := { row := transPutsRow, standIns := [], harness := (true, "efc4a0331b6ce58738a41fc498ee44494dca8a47b88252a58b62eac393e80db4"), looks := false }, kinds := [], alts := [], laidByText := true, laidKinds := [.data, .pinned], laidTests := true, laidLooks := .later }
def TransPutsCardSaid : Prop := Claim7.holds Tryz.pinned (.plain (OpenSpec.ofChange transPutsSpec)) transPutsCard

/-- THE SECOND FORM's CARD OF 'semblancelaw06.ExprParses'. -/
def exprParsesUptoCard : Claim7 := { stood := { row := exprParsesUptoRow, standIns := [], harness := (true, "efc4a0331b6ce58738a41fc498ee44494dca8a47b88252a58b62eac393e80db4"), looks := false }, kinds := [], alts := [], laidByText := true, laidKinds := [.data, .pinned], laidTests := true, laidLooks := .later }
def ExprParsesUptoCardSaid : Prop := Claim7.holds Tryz.pinned (.plain (OpenSpec.upto exprParsesSpec)) exprParsesUptoCard

/-- THE SECOND FORM's CARD OF 'semblancelaw06.ExprReads'. -/
def exprReadsUptoCard : Claim7 := { stood := { row := exprReadsUptoRow, standIns := [], harness := (true, "efc4a0331b6ce58738a41fc498ee44494dca8a47b88252a58b62eac393e80db4"), looks := false }, kinds := [], alts := [], laidByText := true, laidKinds := [.data, .pinned], laidTests := true, laidLooks := .later }
def ExprReadsUptoCardSaid : Prop := Claim7.holds Tryz.pinned (.plain (OpenSpec.upto exprReadsSpec)) exprReadsUptoCard

/-- THE SECOND FORM's CARD OF 'semblancelaw09.TransPuts'. -/
def transPutsUptoCard : Claim7 := { stood := { row := transPutsUptoRow, standIns := [], harness := (true, "efc4a0331b6ce58738a41fc498ee44494dca8a47b88252a58b62eac393e80db4"), looks := false }, kinds := [], alts := [], laidByText := true, laidKinds := [.data, .pinned], laidTests := true, laidLooks := .later }
def TransPutsUptoCardSaid : Prop := Claim7.holds Tryz.pinned (.plain (OpenSpec.upto transPutsSpec)) transPutsUptoCard
end Rows
end Go.Proofs.YtkklkkppedociaaGreatDoor
