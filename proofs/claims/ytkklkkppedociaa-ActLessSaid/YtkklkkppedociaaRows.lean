/-
  No cell of these rows narrows 'for every input' (looked for: loops, veiled, ifaces, maps, wideKeys, modest, calm, conditions, laid).
  DERIVED. THE GIVEN ROWS OF THIS SEAT. 6 by the template 'for every input the law returns true; each argument reads behind the call as it read before'; 0 by the template 'total and deterministic' (their statements: YtkklkkppedociaaTotals.lean).
  GIVEN WITH THE SEED: the statements are not yours to turn. If you find one false, say at which input.
  Laid BY PROGRAM, IN A SANDBOX (cutbox-rows.mjs): the forced cells as the released guide's own fill.sh prints them over the translation 5c2f52e19b319d35… (all of the seat's roots in one cut). By AI agents, Wed Nov 11 2026. No macro, syntax, notation, axiom, sorry.
-/
import Derived.Test.YtkklkkppedociaaChecked
import GoSem.Claim
import GoSem.ClaimJoined
import GoSem.ClaimMapViews
import Derived.JoinedTies
import Derived.KernelRfl
namespace Go.Proofs.Ytkklkkppedociaa
/- THE CELL 'sum', in the pinned program and in every row, IS THE sha256 OF THE DUMP (.gsa) THAT YtkklkkppedociaaProg.lean LOADS. Nothing in Lean hashes anything: it is a label: what it is worth is what the hold of that sum in a sandbox is worth. -/
noncomputable def Try.pinned : Pinned := { name := "ytkklkkppedociaa", sum := "5c2f52e19b319d35f740698e7e4cabd9ba897c1dbc0c4a71c3e9d5a40cffe19a", checked := Try.checked }
namespace Rows
def none {H : Type} : Left H := { results := [], args := [] }

/-- 'semblancelaw01.ValTexts': WHATEVER THE INPUT: true; the input reads as it did. -/
def valTextsSpec : ChangeSpec := { name := "valTexts", fn := fun _ => fun
  | [d1, d2] => { results := [.lit (.bool true)], args := [d1, d2] }
  | _ => none }
def valTextsRow : OpenClaim := { program := "ytkklkkppedociaa", sum := "5c2f52e19b319d35f740698e7e4cabd9ba897c1dbc0c4a71c3e9d5a40cffe19a", func := "semblance/semblancelaw01.ValTexts", spec := "valTexts", recurses := true, apart := false }
def ValTextsSaid : Prop := valTextsRow.holds Try.pinned (OpenSpec.ofChange valTextsSpec)

/-- ITS FALSE NEIGHBOUR: 'it returns false'. Refute it at one input. -/
def valTextsWrong : ChangeSpec := { name := "valTexts", fn := fun _ => fun
  | [d1, d2] => { results := [.lit (.bool false)], args := [d1, d2] }
  | _ => none }
def ValTextsWrongFalsely : Prop := valTextsRow.holds Try.pinned (OpenSpec.ofChange valTextsWrong)

/-- 'semblancelaw01.ValSums': WHATEVER THE INPUT: true; the input reads as it did. -/
def valSumsSpec : ChangeSpec := { name := "valSums", fn := fun _ => fun
  | [d1, d2, d3] => { results := [.lit (.bool true)], args := [d1, d2, d3] }
  | _ => none }
def valSumsRow : OpenClaim := { program := "ytkklkkppedociaa", sum := "5c2f52e19b319d35f740698e7e4cabd9ba897c1dbc0c4a71c3e9d5a40cffe19a", func := "semblance/semblancelaw01.ValSums", spec := "valSums", apart := false }
def ValSumsSaid : Prop := valSumsRow.holds Try.pinned (OpenSpec.ofChange valSumsSpec)

/-- ITS FALSE NEIGHBOUR: 'it returns false'. Refute it at one input. -/
def valSumsWrong : ChangeSpec := { name := "valSums", fn := fun _ => fun
  | [d1, d2, d3] => { results := [.lit (.bool false)], args := [d1, d2, d3] }
  | _ => none }
def ValSumsWrongFalsely : Prop := valSumsRow.holds Try.pinned (OpenSpec.ofChange valSumsWrong)

/-- 'semblancelaw01.ValLaws': WHATEVER THE INPUT: true; the input reads as it did. -/
def valLawsSpec : ChangeSpec := { name := "valLaws", fn := fun _ => fun
  | [d1, d2, d3] => { results := [.lit (.bool true)], args := [d1, d2, d3] }
  | _ => none }
def valLawsRow : OpenClaim := { program := "ytkklkkppedociaa", sum := "5c2f52e19b319d35f740698e7e4cabd9ba897c1dbc0c4a71c3e9d5a40cffe19a", func := "semblance/semblancelaw01.ValLaws", spec := "valLaws", apart := false }
def ValLawsSaid : Prop := valLawsRow.holds Try.pinned (OpenSpec.ofChange valLawsSpec)

/-- ITS FALSE NEIGHBOUR: 'it returns false'. Refute it at one input. -/
def valLawsWrong : ChangeSpec := { name := "valLaws", fn := fun _ => fun
  | [d1, d2, d3] => { results := [.lit (.bool false)], args := [d1, d2, d3] }
  | _ => none }
def ValLawsWrongFalsely : Prop := valLawsRow.holds Try.pinned (OpenSpec.ofChange valLawsWrong)

/-- 'semblancelaw04.CursorAsks': WHATEVER THE INPUT: true; the input reads as it did. -/
def cursorAsksSpec : ChangeSpec := { name := "cursorAsks", fn := fun _ => fun
  | [d1, d2] => { results := [.lit (.bool true)], args := [d1, d2] }
  | _ => none }
def cursorAsksRow : OpenClaim := { program := "ytkklkkppedociaa", sum := "5c2f52e19b319d35f740698e7e4cabd9ba897c1dbc0c4a71c3e9d5a40cffe19a", func := "semblance/semblancelaw04.CursorAsks", spec := "cursorAsks", apart := false }
def CursorAsksSaid : Prop := cursorAsksRow.holds Try.pinned (OpenSpec.ofChange cursorAsksSpec)

/-- ITS FALSE NEIGHBOUR: 'it returns false'. Refute it at one input. -/
def cursorAsksWrong : ChangeSpec := { name := "cursorAsks", fn := fun _ => fun
  | [d1, d2] => { results := [.lit (.bool false)], args := [d1, d2] }
  | _ => none }
def CursorAsksWrongFalsely : Prop := cursorAsksRow.holds Try.pinned (OpenSpec.ofChange cursorAsksWrong)

/-- 'semblancelaw04.CursorNobody': WHATEVER THE INPUT: true; the input reads as it did. -/
def cursorNobodySpec : ChangeSpec := { name := "cursorNobody", fn := fun _ => fun
  | [d] => { results := [.lit (.bool true)], args := [d] }
  | _ => none }
def cursorNobodyRow : OpenClaim := { program := "ytkklkkppedociaa", sum := "5c2f52e19b319d35f740698e7e4cabd9ba897c1dbc0c4a71c3e9d5a40cffe19a", func := "semblance/semblancelaw04.CursorNobody", spec := "cursorNobody", apart := false }
def CursorNobodySaid : Prop := cursorNobodyRow.holds Try.pinned (OpenSpec.ofChange cursorNobodySpec)

/-- ITS FALSE NEIGHBOUR: 'it returns false'. Refute it at one input. -/
def cursorNobodyWrong : ChangeSpec := { name := "cursorNobody", fn := fun _ => fun
  | [d] => { results := [.lit (.bool false)], args := [d] }
  | _ => none }
def CursorNobodyWrongFalsely : Prop := cursorNobodyRow.holds Try.pinned (OpenSpec.ofChange cursorNobodyWrong)

/-- 'semblancelaw08.ActLess': WHATEVER THE INPUT: true; the input reads as it did. -/
def actLessSpec : ChangeSpec := { name := "actLess", fn := fun _ => fun
  | [d1, d2] => { results := [.lit (.bool true)], args := [d1, d2] }
  | _ => none }
def actLessRow : OpenClaim := { program := "ytkklkkppedociaa", sum := "5c2f52e19b319d35f740698e7e4cabd9ba897c1dbc0c4a71c3e9d5a40cffe19a", func := "semblance/semblancelaw08.ActLess", spec := "actLess", inPlace := ["internal/abi.NoEscape", "internal/bytealg.MakeNoZero"], unfollowed := true, recurses := true, apart := false }
def ActLessSaid : Prop := actLessRow.holds Try.pinned (OpenSpec.ofChange actLessSpec)

/-- ITS FALSE NEIGHBOUR: 'it returns false'. Refute it at one input. -/
def actLessWrong : ChangeSpec := { name := "actLess", fn := fun _ => fun
  | [d1, d2] => { results := [.lit (.bool false)], args := [d1, d2] }
  | _ => none }
def ActLessWrongFalsely : Prop := actLessRow.holds Try.pinned (OpenSpec.ofChange actLessWrong)

/- THE SECOND FORM. 'bulk': how many values and letters a reading holds, each counted each time it is reached (what is shared counts as often as it is met; a slice's spare places count too). A statement '..UptoSaid' is the law's where the arguments, and the package variables that the reading takes, are together of bulk at most 1048576: NARROWER than '..Said'. Prove '..Said' where nothing that the law and all that it calls make is longer than what came in: it says more and counts as full. Else prove '..UptoSaid'. A law counts once. -/
mutual
def uptoBulk {H : Type} : DataW H → Nat
  | .lit (.string bytes) => bytes.length + 1
  | .lit _ => 1
  | .nil => 1
  | .ptr d => uptoBulk d + 1
  | .slice elems spare => uptoBulkAll elems + uptoBulkAll spare + 1
  | .agg parts => uptoBulkAll parts + 1
  | .iface _ d => uptoBulk d + 1
  | .map entries => uptoBulkEntries entries + 1
  | .held _ => 1
def uptoBulkAll {H : Type} : List (DataW H) → Nat
  | [] => 0
  | d :: r => uptoBulk d + uptoBulkAll r
def uptoBulkEntries {H : Type} : List (Lit × DataW H) → Nat
  | [] => 0
  | x :: r => uptoBulkEntry x + uptoBulkEntries r
def uptoBulkEntry {H : Type} : Lit × DataW H → Nat
  | (.string bytes, d) => bytes.length + uptoBulk d + 1
  | (_, d) => uptoBulk d + 1
 end
def uptoSmall : (H : Type) → List (DataW H) → Bool := fun _ ds => decide (uptoBulkAll ds ≤ 1048576)
def OpenSpec.upto (s : _root_.Go.ChangeSpec) : _root_.Go.OpenSpec := { _root_.Go.OpenSpec.ofChange s with cond := some uptoSmall }

/-- 'semblancelaw01.ValTexts', WHERE WHAT IT READS IS OF BULK AT MOST 1048576: true; the input reads as it did. -/
def valTextsUptoRow : OpenClaim := { program := "ytkklkkppedociaa", sum := "5c2f52e19b319d35f740698e7e4cabd9ba897c1dbc0c4a71c3e9d5a40cffe19a", func := "semblance/semblancelaw01.ValTexts", spec := "valTexts", recurses := true, apart := false, narrowed := true }
def ValTextsUptoSaid : Prop := valTextsUptoRow.holds Try.pinned (OpenSpec.upto valTextsSpec)

/-- 'semblancelaw01.ValSums', WHERE WHAT IT READS IS OF BULK AT MOST 1048576: true; the input reads as it did. -/
def valSumsUptoRow : OpenClaim := { program := "ytkklkkppedociaa", sum := "5c2f52e19b319d35f740698e7e4cabd9ba897c1dbc0c4a71c3e9d5a40cffe19a", func := "semblance/semblancelaw01.ValSums", spec := "valSums", apart := false, narrowed := true }
def ValSumsUptoSaid : Prop := valSumsUptoRow.holds Try.pinned (OpenSpec.upto valSumsSpec)

/-- 'semblancelaw01.ValLaws', WHERE WHAT IT READS IS OF BULK AT MOST 1048576: true; the input reads as it did. -/
def valLawsUptoRow : OpenClaim := { program := "ytkklkkppedociaa", sum := "5c2f52e19b319d35f740698e7e4cabd9ba897c1dbc0c4a71c3e9d5a40cffe19a", func := "semblance/semblancelaw01.ValLaws", spec := "valLaws", apart := false, narrowed := true }
def ValLawsUptoSaid : Prop := valLawsUptoRow.holds Try.pinned (OpenSpec.upto valLawsSpec)

/-- 'semblancelaw04.CursorAsks', WHERE WHAT IT READS IS OF BULK AT MOST 1048576: true; the input reads as it did. -/
def cursorAsksUptoRow : OpenClaim := { program := "ytkklkkppedociaa", sum := "5c2f52e19b319d35f740698e7e4cabd9ba897c1dbc0c4a71c3e9d5a40cffe19a", func := "semblance/semblancelaw04.CursorAsks", spec := "cursorAsks", apart := false, narrowed := true }
def CursorAsksUptoSaid : Prop := cursorAsksUptoRow.holds Try.pinned (OpenSpec.upto cursorAsksSpec)

/-- 'semblancelaw04.CursorNobody', WHERE WHAT IT READS IS OF BULK AT MOST 1048576: true; the input reads as it did. -/
def cursorNobodyUptoRow : OpenClaim := { program := "ytkklkkppedociaa", sum := "5c2f52e19b319d35f740698e7e4cabd9ba897c1dbc0c4a71c3e9d5a40cffe19a", func := "semblance/semblancelaw04.CursorNobody", spec := "cursorNobody", apart := false, narrowed := true }
def CursorNobodyUptoSaid : Prop := cursorNobodyUptoRow.holds Try.pinned (OpenSpec.upto cursorNobodySpec)

/-- 'semblancelaw08.ActLess', WHERE WHAT IT READS IS OF BULK AT MOST 1048576: true; the input reads as it did. -/
def actLessUptoRow : OpenClaim := { program := "ytkklkkppedociaa", sum := "5c2f52e19b319d35f740698e7e4cabd9ba897c1dbc0c4a71c3e9d5a40cffe19a", func := "semblance/semblancelaw08.ActLess", spec := "actLess", inPlace := ["internal/abi.NoEscape", "internal/bytealg.MakeNoZero"], unfollowed := true, recurses := true, apart := false, narrowed := true }
def ActLessUptoSaid : Prop := actLessUptoRow.holds Try.pinned (OpenSpec.upto actLessSpec)

end Rows
end Go.Proofs.Ytkklkkppedociaa
