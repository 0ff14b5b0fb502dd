/- Layer 6: the theorem of forms. -/
import Derived.Test.YtkklkkppedociaaGreatDoorPkRnd
import Derived.Test.YtkklkkppedociaaGreatDoorPkLaw
set_option linter.unusedVariables false
set_option linter.unusedSimpArgs false
set_option maxRecDepth 100000
set_option maxHeartbeats 2000000
namespace Go.Proofs.YtkklkkppedociaaGreatDoor.Ev
open Go Go.RowKit

theorem checkV_ok {e : Tr} (hw : e.wf) (hm : ∀ t ∈ e.flat, t.may = true) (hl : e.flat.length ≤ 40) (hd : e.dep ≤ 12) : checkV e.flat = 0 := by
  have hwb : wholeB e.flat = true := by
    unfold wholeB
    simp only [Bool.and_eq_true, decide_eq_true_eq]
    exact ⟨hl, (whole_tree e.flat).2 ⟨e, hw, rfl⟩⟩
  have ha : (e.flat.any fun t => !t.may) = false := by
    rw [List.any_eq_false]
    intro t ht
    simp [hm t ht]
  unfold checkV
  rw [if_neg (by omega), hwb, ha, if_neg (by simp), depV_flat hw, if_neg (by omega)]
theorem checkV_tree {l : List Tm} (h0 : checkV l = 0) : ∃ e : Tr, e.wf ∧ l = e.flat ∧ (∀ t ∈ e.flat, t.may = true) ∧ e.flat.length ≤ 40 ∧ e.dep ≤ 12 := by
  unfold checkV at h0
  split at h0
  · cases h0
  · rename_i h40
    split at h0
    · cases h0
    · rename_i h1
      simp only [not_or] at h1
      obtain ⟨e, e1, e2⟩ := whole_of (l := l) (by simpa using h1.1)
      split at h0
      · cases h0
      · rename_i h12
        refine ⟨e, e1, e2, fun t ht => ?_, by rw [← e2]; omega, by rw [← depV_eq e1 e2]; omega⟩
        have := h1.2
        simp only [List.any_eq_true, not_exists, not_and] at this
        simpa using this t (by rw [e2]; exact ht)
theorem may_short {l : List Tm} (h : ∀ t ∈ l, t.may = true) : ∀ t ∈ l, t.name.length ≤ 9223372036854775807 := fun t ht => by
  have := (may_bd (h t ht)).1
  omega
end Go.Proofs.YtkklkkppedociaaGreatDoor.Ev
