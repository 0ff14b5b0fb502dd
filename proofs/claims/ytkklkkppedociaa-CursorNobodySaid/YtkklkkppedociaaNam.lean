/- Layer 2: names. -/
import Derived.Test.YtkklkkppedociaaEvO
import Derived.Laws.RangeAny
set_option linter.unusedVariables false
set_option linter.unusedSimpArgs false
set_option maxRecDepth 100000
set_option maxHeartbeats 2000000
namespace Go.Proofs.Ytkklkkppedociaa.Ev
open Go Go.RowKit

def kws : List (List UInt8) := [[99, 104, 97, 114, 116], [101, 118, 101, 110, 116], [118, 97, 114], [108, 101, 97, 102], [111, 114], [97, 110, 100], [101, 110, 116, 101, 114], [101, 120, 105, 116], [111, 110], [97, 117, 116, 111],
  [97, 110, 121], [105, 110], [109, 105, 110], [109, 97, 120], [110, 111, 116], [116, 114, 117, 101], [102, 97, 108, 115, 101]]
theorem Keyword_ev (s : List UInt8) : Gives 52 [T s] (V.bool (decide (s ∈ kws))) := by
  refine .intro Try.func52 (by kernel_rfl) (.of fun k ro gl => ?_)
  by_cases h : s ∈ kws
  · simp only [h, decide_true]
    simp only [kws, List.mem_cons, List.not_mem_nil, or_false] at h
    rcases h with rfl | rfl | rfl | rfl | rfl | rfl | rfl | rfl | rfl | rfl | rfl | rfl | rfl | rfl | rfl | rfl | rfl <;>
      simp -implicitDefEqProofs [Try.f52]
  · simp only [h, decide_false]
    simp only [kws, List.mem_cons, List.not_mem_nil, or_false, not_or] at h
    obtain ⟨h1, h2, h3, h4, h5, h6, h7, h8, h9, h10, h11, h12, h13, h14, h15, h16, h17⟩ := h
    simp -implicitDefEqProofs [Try.f52, h1, h2, h3, h4, h5, h6, h7, h8, h9, h10, h11, h12, h13, h14, h15, h16, h17]

def lowB (c : UInt8) : Bool := decide (97 ≤ c.toNat ∧ c.toNat ≤ 122)
def othB (c : UInt8) : Bool := decide (48 ≤ c.toNat ∧ c.toNat ≤ 57 ∨ c.toNat = 95)
def nmL : Bool → List UInt8 → Bool
  | _, [] => true
  | first, c :: r => (lowB c || (!first && othB c)) && nmL false r
def isName (s : List UInt8) : Bool := decide (1 ≤ s.length ∧ s.length ≤ 12) && !decide (s ∈ kws) && nmL true s

end Go.Proofs.Ytkklkkppedociaa.Ev
