/-
  NARROWER THAN 'FOR EVERY INPUT', by the rows' own cells (each row's printed sentence says how): PrintPuts: laid · PrintLong: laid · FormatOf: laid · FormatTwice: laid · FormatSame: laid · ActPuts: laid.
  DERIVED. THE GIVEN ROWS OF THIS SEAT. 6 by the template 'for every input the law returns true; each argument reads behind the call as it read before'; 0 by the template 'total and deterministic' (their statements: YtckonoejmjblfaaGreatDoorTotals.lean).
  GIVEN WITH THE SEED: the statements are not yours to turn. If you find one false, say at which input.
  Laid BY PROGRAM, IN A SANDBOX (cutbox-rows.mjs): the forced cells as the released guide's own fill.sh prints them over the translation b5591a730b78a1a0… (all of the seat's roots in one cut). By AI agents, Wed Nov 11 2026. No macro, syntax, notation, axiom, sorry.
-/
import Derived.Test.YtckonoejmjblfaaGreatDoorChecked
import GoSem.PinnedTables
import GoSem.Claim
import GoSem.ClaimJoined
import GoSem.ClaimMapViews
import Derived.JoinedTies
import Derived.KernelRfl
namespace Go.Proofs.YtckonoejmjblfaaGreatDoor
/- THE CELL 'sum', in the pinned program and in every row, IS THE sha256 OF THE DUMP (.gsa) THAT YtckonoejmjblfaaGreatDoorProg.lean LOADS. Nothing in Lean hashes anything: it is a label: what it is worth is what the hold of that sum in a sandbox is worth. -/
noncomputable def Tryz.pinned : Pinned := { name := "ytckonoejmjblfaagreatdoor", sum := "b5591a730b78a1a05c2e5d99589796c79bfcc39866260fed5dc412a579dd8d18", checked := Tryz.checked }
namespace Rows
def none {H : Type} : Left H := { results := [], args := [] }

/- WHAT THE LISTED PACKAGE-LEVEL VARIABLES READ AS WHEN THE CALL BEGINS. Each datum BY PROGRAM (the guide's laid-datum.mjs) off the statement by which the dump's own 'gosem.cut.vars' lays the variable. In a bare row this is a premise. The card (YtckonoejmjblfaaGreatDoorCards.lean) ties it to the program's text. -/
def laid_unicode_utf8_acceptRanges {H : Type} : DataW H := .agg [.agg [.lit (.int .u8 128), .lit (.int .u8 191)], .agg [.lit (.int .u8 160), .lit (.int .u8 191)], .agg [.lit (.int .u8 128), .lit (.int .u8 159)], .agg [.lit (.int .u8 144), .lit (.int .u8 191)], .agg [.lit (.int .u8 128), .lit (.int .u8 143)], .agg [.lit (.int .u8 0), .lit (.int .u8 0)], .agg [.lit (.int .u8 0), .lit (.int .u8 0)], .agg [.lit (.int .u8 0), .lit (.int .u8 0)], .agg [.lit (.int .u8 0), .lit (.int .u8 0)], .agg [.lit (.int .u8 0), .lit (.int .u8 0)], .agg [.lit (.int .u8 0), .lit (.int .u8 0)], .agg [.lit (.int .u8 0), .lit (.int .u8 0)], .agg [.lit (.int .u8 0), .lit (.int .u8 0)], .agg [.lit (.int .u8 0), .lit (.int .u8 0)], .agg [.lit (.int .u8 0), .lit (.int .u8 0)], .agg [.lit (.int .u8 0), .lit (.int .u8 0)]]
/-- One of Go's own tables, pinned by name: the form's constant. -/
def laid_unicode_utf8_first : DataW Unit := Go.Pinned.utf8First

/-- 'semblancelaw12.PrintPuts': WHATEVER THE INPUT: true; the input reads as it did. -/
def printPutsSpec : ChangeSpec := { name := "printPuts", fn := fun _ => fun
  | [d] => { results := [.lit (.bool true)], args := [d] }
  | _ => none }
def printPutsRow : OpenClaim := { program := "ytckonoejmjblfaagreatdoor", sum := "b5591a730b78a1a05c2e5d99589796c79bfcc39866260fed5dc412a579dd8d18", func := "semblance/semblancelaw12.PrintPuts", spec := "printPuts", inPlace := ["internal/abi.NoEscape", "internal/bytealg.MakeNoZero", "internal/bytealg.IndexByteString", "internal/bytealg.IndexString", "internal/bytealg.CountString"], unfollowed := true, recurses := true, named := ["unicode/utf8.first", "unicode/utf8.acceptRanges", "internal/bytealg.MaxLen"], apart := false, laid := [("unicode/utf8.acceptRanges", laid_unicode_utf8_acceptRanges), ("unicode/utf8.first", laid_unicode_utf8_first)] }
def PrintPutsSaid : Prop := printPutsRow.holds Tryz.pinned (OpenSpec.ofChange printPutsSpec)

/-- ITS FALSE NEIGHBOUR: 'it returns false'. Refute it at one input. -/
def printPutsWrong : ChangeSpec := { name := "printPuts", fn := fun _ => fun
  | [d] => { results := [.lit (.bool false)], args := [d] }
  | _ => none }
def PrintPutsWrongFalsely : Prop := printPutsRow.holds Tryz.pinned (OpenSpec.ofChange printPutsWrong)

/-- 'semblancelaw12.PrintLong': WHATEVER THE INPUT: true; the input reads as it did. -/
def printLongSpec : ChangeSpec := { name := "printLong", fn := fun _ => fun
  | [d1, d2] => { results := [.lit (.bool true)], args := [d1, d2] }
  | _ => none }
def printLongRow : OpenClaim := { program := "ytckonoejmjblfaagreatdoor", sum := "b5591a730b78a1a05c2e5d99589796c79bfcc39866260fed5dc412a579dd8d18", func := "semblance/semblancelaw12.PrintLong", spec := "printLong", inPlace := ["internal/abi.NoEscape", "internal/bytealg.MakeNoZero", "internal/bytealg.IndexByteString", "internal/bytealg.IndexString", "internal/bytealg.CountString"], unfollowed := true, recurses := true, named := ["unicode/utf8.first", "unicode/utf8.acceptRanges", "internal/bytealg.MaxLen"], apart := false, laid := [("unicode/utf8.acceptRanges", laid_unicode_utf8_acceptRanges), ("unicode/utf8.first", laid_unicode_utf8_first)] }
def PrintLongSaid : Prop := printLongRow.holds Tryz.pinned (OpenSpec.ofChange printLongSpec)

/-- ITS FALSE NEIGHBOUR: 'it returns false'. Refute it at one input. -/
def printLongWrong : ChangeSpec := { name := "printLong", fn := fun _ => fun
  | [d1, d2] => { results := [.lit (.bool false)], args := [d1, d2] }
  | _ => none }
def PrintLongWrongFalsely : Prop := printLongRow.holds Tryz.pinned (OpenSpec.ofChange printLongWrong)

/-- 'semblancelaw13.FormatOf': WHATEVER THE INPUT: true; the input reads as it did. -/
def formatOfSpec : ChangeSpec := { name := "formatOf", fn := fun _ => fun
  | [d] => { results := [.lit (.bool true)], args := [d] }
  | _ => none }
def formatOfRow : OpenClaim := { program := "ytckonoejmjblfaagreatdoor", sum := "b5591a730b78a1a05c2e5d99589796c79bfcc39866260fed5dc412a579dd8d18", func := "semblance/semblancelaw13.FormatOf", spec := "formatOf", inPlace := ["internal/bytealg.IndexByteString", "internal/bytealg.IndexString", "internal/bytealg.CountString", "internal/abi.NoEscape", "internal/bytealg.MakeNoZero"], unfollowed := true, recurses := true, named := ["unicode/utf8.first", "unicode/utf8.acceptRanges", "internal/bytealg.MaxLen"], apart := false, laid := [("unicode/utf8.acceptRanges", laid_unicode_utf8_acceptRanges), ("unicode/utf8.first", laid_unicode_utf8_first)] }
def FormatOfSaid : Prop := formatOfRow.holds Tryz.pinned (OpenSpec.ofChange formatOfSpec)

/-- ITS FALSE NEIGHBOUR: 'it returns false'. Refute it at one input. -/
def formatOfWrong : ChangeSpec := { name := "formatOf", fn := fun _ => fun
  | [d] => { results := [.lit (.bool false)], args := [d] }
  | _ => none }
def FormatOfWrongFalsely : Prop := formatOfRow.holds Tryz.pinned (OpenSpec.ofChange formatOfWrong)

/-- 'semblancelaw13.FormatTwice': WHATEVER THE INPUT: true; the input reads as it did. -/
def formatTwiceSpec : ChangeSpec := { name := "formatTwice", fn := fun _ => fun
  | [d] => { results := [.lit (.bool true)], args := [d] }
  | _ => none }
def formatTwiceRow : OpenClaim := { program := "ytckonoejmjblfaagreatdoor", sum := "b5591a730b78a1a05c2e5d99589796c79bfcc39866260fed5dc412a579dd8d18", func := "semblance/semblancelaw13.FormatTwice", spec := "formatTwice", inPlace := ["internal/bytealg.IndexByteString", "internal/bytealg.IndexString", "internal/bytealg.CountString", "internal/abi.NoEscape", "internal/bytealg.MakeNoZero"], unfollowed := true, recurses := true, named := ["unicode/utf8.first", "unicode/utf8.acceptRanges", "internal/bytealg.MaxLen"], apart := false, laid := [("unicode/utf8.acceptRanges", laid_unicode_utf8_acceptRanges), ("unicode/utf8.first", laid_unicode_utf8_first)] }
def FormatTwiceSaid : Prop := formatTwiceRow.holds Tryz.pinned (OpenSpec.ofChange formatTwiceSpec)

/-- ITS FALSE NEIGHBOUR: 'it returns false'. Refute it at one input. -/
def formatTwiceWrong : ChangeSpec := { name := "formatTwice", fn := fun _ => fun
  | [d] => { results := [.lit (.bool false)], args := [d] }
  | _ => none }
def FormatTwiceWrongFalsely : Prop := formatTwiceRow.holds Tryz.pinned (OpenSpec.ofChange formatTwiceWrong)

/-- 'semblancelaw13.FormatSame': WHATEVER THE INPUT: true; the input reads as it did. -/
def formatSameSpec : ChangeSpec := { name := "formatSame", fn := fun _ => fun
  | [d1, d2] => { results := [.lit (.bool true)], args := [d1, d2] }
  | _ => none }
def formatSameRow : OpenClaim := { program := "ytckonoejmjblfaagreatdoor", sum := "b5591a730b78a1a05c2e5d99589796c79bfcc39866260fed5dc412a579dd8d18", func := "semblance/semblancelaw13.FormatSame", spec := "formatSame", inPlace := ["internal/bytealg.IndexByteString", "internal/bytealg.IndexString", "internal/bytealg.CountString", "internal/abi.NoEscape", "internal/bytealg.MakeNoZero"], unfollowed := true, recurses := true, named := ["unicode/utf8.first", "unicode/utf8.acceptRanges", "internal/bytealg.MaxLen"], apart := false, laid := [("unicode/utf8.acceptRanges", laid_unicode_utf8_acceptRanges), ("unicode/utf8.first", laid_unicode_utf8_first)] }
def FormatSameSaid : Prop := formatSameRow.holds Tryz.pinned (OpenSpec.ofChange formatSameSpec)

/-- ITS FALSE NEIGHBOUR: 'it returns false'. Refute it at one input. -/
def formatSameWrong : ChangeSpec := { name := "formatSame", fn := fun _ => fun
  | [d1, d2] => { results := [.lit (.bool false)], args := [d1, d2] }
  | _ => none }
def FormatSameWrongFalsely : Prop := formatSameRow.holds Tryz.pinned (OpenSpec.ofChange formatSameWrong)

/-- 'semblancelaw08.ActPuts': WHATEVER THE INPUT: true; the input reads as it did. -/
def actPutsSpec : ChangeSpec := { name := "actPuts", fn := fun _ => fun
  | [d] => { results := [.lit (.bool true)], args := [d] }
  | _ => none }
def actPutsRow : OpenClaim := { program := "ytckonoejmjblfaagreatdoor", sum := "b5591a730b78a1a05c2e5d99589796c79bfcc39866260fed5dc412a579dd8d18", func := "semblance/semblancelaw08.ActPuts", spec := "actPuts", inPlace := ["internal/abi.NoEscape", "internal/bytealg.MakeNoZero", "internal/bytealg.IndexByteString", "internal/bytealg.IndexString", "internal/bytealg.CountString"], unfollowed := true, recurses := true, named := ["unicode/utf8.first", "unicode/utf8.acceptRanges", "internal/bytealg.MaxLen"], apart := false, laid := [("unicode/utf8.acceptRanges", laid_unicode_utf8_acceptRanges), ("unicode/utf8.first", laid_unicode_utf8_first)] }
def ActPutsSaid : Prop := actPutsRow.holds Tryz.pinned (OpenSpec.ofChange actPutsSpec)

/-- ITS FALSE NEIGHBOUR: 'it returns false'. Refute it at one input. -/
def actPutsWrong : ChangeSpec := { name := "actPuts", fn := fun _ => fun
  | [d] => { results := [.lit (.bool false)], args := [d] }
  | _ => none }
def ActPutsWrongFalsely : Prop := actPutsRow.holds Tryz.pinned (OpenSpec.ofChange actPutsWrong)

/- THE SECOND FORM. 'bulk': how many values and letters a reading holds, each counted each time it is reached (what is shared counts as often as it is met; a slice's spare places count too). A statement '..UptoSaid' is the law's where the arguments, and the package variables that the reading takes, are together of bulk at most 1048576: NARROWER than '..Said'. Prove '..Said' where nothing that the law and all that it calls make is longer than what came in: it says more and counts as full. Else prove '..UptoSaid'. A law counts once. -/
mutual
def uptoBulk {H : Type} : DataW H → Nat
  | .lit (.string bytes) => bytes.length + 1
  | .lit _ => 1
  | .nil => 1
  | .ptr d => uptoBulk d + 1
  | .slice elems spare => uptoBulkAll elems + uptoBulkAll spare + 1
  | .agg parts => uptoBulkAll parts + 1
  | .iface _ d => uptoBulk d + 1
  | .map entries => uptoBulkEntries entries + 1
  | .held _ => 1
def uptoBulkAll {H : Type} : List (DataW H) → Nat
  | [] => 0
  | d :: r => uptoBulk d + uptoBulkAll r
def uptoBulkEntries {H : Type} : List (Lit × DataW H) → Nat
  | [] => 0
  | x :: r => uptoBulkEntry x + uptoBulkEntries r
def uptoBulkEntry {H : Type} : Lit × DataW H → Nat
  | (.string bytes, d) => bytes.length + uptoBulk d + 1
  | (_, d) => uptoBulk d + 1
 end
def uptoSmall : (H : Type) → List (DataW H) → Bool := fun _ ds => decide (uptoBulkAll ds ≤ 1048576)
def OpenSpec.upto (s : _root_.Go.ChangeSpec) : _root_.Go.OpenSpec := { _root_.Go.OpenSpec.ofChange s with cond := some uptoSmall }

/-- 'semblancelaw12.PrintPuts', WHERE WHAT IT READS IS OF BULK AT MOST 1048576: true; the input reads as it did. -/
def printPutsUptoRow : OpenClaim := { program := "ytckonoejmjblfaagreatdoor", sum := "b5591a730b78a1a05c2e5d99589796c79bfcc39866260fed5dc412a579dd8d18", func := "semblance/semblancelaw12.PrintPuts", spec := "printPuts", inPlace := ["internal/abi.NoEscape", "internal/bytealg.MakeNoZero", "internal/bytealg.IndexByteString", "internal/bytealg.IndexString", "internal/bytealg.CountString"], unfollowed := true, recurses := true, named := ["unicode/utf8.first", "unicode/utf8.acceptRanges", "internal/bytealg.MaxLen"], apart := false, laid := [("unicode/utf8.acceptRanges", laid_unicode_utf8_acceptRanges), ("unicode/utf8.first", laid_unicode_utf8_first)], narrowed := true }
def PrintPutsUptoSaid : Prop := printPutsUptoRow.holds Tryz.pinned (OpenSpec.upto printPutsSpec)

/-- 'semblancelaw12.PrintLong', WHERE WHAT IT READS IS OF BULK AT MOST 1048576: true; the input reads as it did. -/
def printLongUptoRow : OpenClaim := { program := "ytckonoejmjblfaagreatdoor", sum := "b5591a730b78a1a05c2e5d99589796c79bfcc39866260fed5dc412a579dd8d18", func := "semblance/semblancelaw12.PrintLong", spec := "printLong", inPlace := ["internal/abi.NoEscape", "internal/bytealg.MakeNoZero", "internal/bytealg.IndexByteString", "internal/bytealg.IndexString", "internal/bytealg.CountString"], unfollowed := true, recurses := true, named := ["unicode/utf8.first", "unicode/utf8.acceptRanges", "internal/bytealg.MaxLen"], apart := false, laid := [("unicode/utf8.acceptRanges", laid_unicode_utf8_acceptRanges), ("unicode/utf8.first", laid_unicode_utf8_first)], narrowed := true }
def PrintLongUptoSaid : Prop := printLongUptoRow.holds Tryz.pinned (OpenSpec.upto printLongSpec)

/-- 'semblancelaw13.FormatOf', WHERE WHAT IT READS IS OF BULK AT MOST 1048576: true; the input reads as it did. -/
def formatOfUptoRow : OpenClaim := { program := "ytckonoejmjblfaagreatdoor", sum := "b5591a730b78a1a05c2e5d99589796c79bfcc39866260fed5dc412a579dd8d18", func := "semblance/semblancelaw13.FormatOf", spec := "formatOf", inPlace := ["internal/bytealg.IndexByteString", "internal/bytealg.IndexString", "internal/bytealg.CountString", "internal/abi.NoEscape", "internal/bytealg.MakeNoZero"], unfollowed := true, recurses := true, named := ["unicode/utf8.first", "unicode/utf8.acceptRanges", "internal/bytealg.MaxLen"], apart := false, laid := [("unicode/utf8.acceptRanges", laid_unicode_utf8_acceptRanges), ("unicode/utf8.first", laid_unicode_utf8_first)], narrowed := true }
def FormatOfUptoSaid : Prop := formatOfUptoRow.holds Tryz.pinned (OpenSpec.upto formatOfSpec)

/-- 'semblancelaw13.FormatTwice', WHERE WHAT IT READS IS OF BULK AT MOST 1048576: true; the input reads as it did. -/
def formatTwiceUptoRow : OpenClaim := { program := "ytckonoejmjblfaagreatdoor", sum := "b5591a730b78a1a05c2e5d99589796c79bfcc39866260fed5dc412a579dd8d18", func := "semblance/semblancelaw13.FormatTwice", spec := "formatTwice", inPlace := ["internal/bytealg.IndexByteString", "internal/bytealg.IndexString", "internal/bytealg.CountString", "internal/abi.NoEscape", "internal/bytealg.MakeNoZero"], unfollowed := true, recurses := true, named := ["unicode/utf8.first", "unicode/utf8.acceptRanges", "internal/bytealg.MaxLen"], apart := false, laid := [("unicode/utf8.acceptRanges", laid_unicode_utf8_acceptRanges), ("unicode/utf8.first", laid_unicode_utf8_first)], narrowed := true }
def FormatTwiceUptoSaid : Prop := formatTwiceUptoRow.holds Tryz.pinned (OpenSpec.upto formatTwiceSpec)

/-- 'semblancelaw13.FormatSame', WHERE WHAT IT READS IS OF BULK AT MOST 1048576: true; the input reads as it did. -/
def formatSameUptoRow : OpenClaim := { program := "ytckonoejmjblfaagreatdoor", sum := "b5591a730b78a1a05c2e5d99589796c79bfcc39866260fed5dc412a579dd8d18", func := "semblance/semblancelaw13.FormatSame", spec := "formatSame", inPlace := ["internal/bytealg.IndexByteString", "internal/bytealg.IndexString", "internal/bytealg.CountString", "internal/abi.NoEscape", "internal/bytealg.MakeNoZero"], unfollowed := true, recurses := true, named := ["unicode/utf8.first", "unicode/utf8.acceptRanges", "internal/bytealg.MaxLen"], apart := false, laid := [("unicode/utf8.acceptRanges", laid_unicode_utf8_acceptRanges), ("unicode/utf8.first", laid_unicode_utf8_first)], narrowed := true }
def FormatSameUptoSaid : Prop := formatSameUptoRow.holds Tryz.pinned (OpenSpec.upto formatSameSpec)

/-- 'semblancelaw08.ActPuts', WHERE WHAT IT READS IS OF BULK AT MOST 1048576: true; the input reads as it did. -/
def actPutsUptoRow : OpenClaim := { program := "ytckonoejmjblfaagreatdoor", sum := "b5591a730b78a1a05c2e5d99589796c79bfcc39866260fed5dc412a579dd8d18", func := "semblance/semblancelaw08.ActPuts", spec := "actPuts", inPlace := ["internal/abi.NoEscape", "internal/bytealg.MakeNoZero", "internal/bytealg.IndexByteString", "internal/bytealg.IndexString", "internal/bytealg.CountString"], unfollowed := true, recurses := true, named := ["unicode/utf8.first", "unicode/utf8.acceptRanges", "internal/bytealg.MaxLen"], apart := false, laid := [("unicode/utf8.acceptRanges", laid_unicode_utf8_acceptRanges), ("unicode/utf8.first", laid_unicode_utf8_first)], narrowed := true }
def ActPutsUptoSaid : Prop := actPutsUptoRow.holds Tryz.pinned (OpenSpec.upto actPutsSpec)

end Rows
end Go.Proofs.YtckonoejmjblfaaGreatDoor
