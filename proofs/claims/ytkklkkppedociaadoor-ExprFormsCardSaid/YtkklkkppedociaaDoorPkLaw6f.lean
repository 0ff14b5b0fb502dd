/- Layer 6: the theorem of forms. -/
import Derived.Test.YtkklkkppedociaaDoorPkRnd
import Derived.Test.YtkklkkppedociaaDoorPkLaw
set_option linter.unusedVariables false
set_option linter.unusedSimpArgs false
set_option maxRecDepth 100000
set_option maxHeartbeats 2000000
namespace Go.Proofs.YtkklkkppedociaaDoor.Ev
open Go Go.RowKit

theorem checkV_ok {e : Tr} (hw : e.wf) (hm : ∀ t ∈ e.flat, t.may = true) (hl : e.flat.length ≤ 40) (hd : e.dep ≤ 12) : checkV e.flat = 0 := by
  have hwb : wholeB e.flat = true := by
    unfold wholeB
    simp only [Bool.and_eq_true, decide_eq_true_eq]
    exact ⟨hl, (whole_tree e.flat).2 ⟨e, hw, rfl⟩⟩
  have ha : (e.flat.any fun t => !t.may) = false := by
    rw [List.any_eq_false]
    intro t ht
    simp [hm t ht]
  unfold checkV
  rw [if_neg (by omega), hwb, ha, if_neg (by simp), depV_flat hw, if_neg (by omega)]
theorem checkV_tree {l : List Tm} (h0 : checkV l = 0) : ∃ e : Tr, e.wf ∧ l = e.flat ∧ (∀ t ∈ e.flat, t.may = true) ∧ e.flat.length ≤ 40 ∧ e.dep ≤ 12 := by
  unfold checkV at h0
  split at h0
  · cases h0
  · rename_i h40
    split at h0
    · cases h0
    · rename_i h1
      simp only [not_or] at h1
      obtain ⟨e, e1, e2⟩ := whole_of (l := l) (by simpa using h1.1)
      split at h0
      · cases h0
      · rename_i h12
        refine ⟨e, e1, e2, fun t ht => ?_, by rw [← e2]; omega, by rw [← depV_eq e1 e2]; omega⟩
        have := h1.2
        simp only [List.any_eq_true, not_exists, not_and] at this
        simpa using this t (by rw [e2]; exact ht)
theorem may_short {l : List Tm} (h : ∀ t ∈ l, t.may = true) : ∀ t ∈ l, t.name.length ≤ 9223372036854775807 := fun t ht => by
  have := (may_bd (h t ht)).1
  omega
theorem ExprForms_ev (s : List UInt8) (hs : s.length ≤ 9223372036854775807) : Gives 4 [T s] (V.bool true) := by
  by_cases h4 : 400 < s.length
  · have h4' : (400 : Int) < s.length := by omega
    refine .intro Tryd.func4 (by kernel_rfl) (awake06_ev.imp fun k h ro gl => ?_)
    simp -implicitDefEqProofs [Tryd.f4, h4', h]
  · have h4' : ¬ (400 : Int) < s.length := by omega
    have h1 := Parse_ev s hs
    by_cases he : (parsP s).2 = 0
    · obtain ⟨e, e1, e2, e3, e5, e6⟩ := parsP_ok he
      have hp : parsP s = (e.flat, 0) := by rw [← e2, ← he]
      have hx := txt_len e e3
      have h2 := EPut_ev e.flat (may_short e3) (by omega)
      have h3 := Parse_ev e.txt (by omega)
      have h5 := Same_ev e.flat e.flat (by omega) (by omega)
      rw [checkV_ok e1 e3 e5 e6, if_pos rfl, txtV_eq e1 rfl] at h2
      rw [parsP_txt e e1 e3 e5 e6] at h3
      rw [hp] at h1
      simp only [decide_true] at h5
      generalize e.txt = t at h2 h3
      generalize e.flat = l at h1 h2 h3 h5
      refine .intro Tryd.func4 (by kernel_rfl) ((awake06_ev.and (h1.and (h2.and (h3.and h5)))).imp fun k ⟨h, h1, h2, h3, h5⟩ ro gl => ?_)
      simp [parsV] at h1 h2 h3 h5
      simp -implicitDefEqProofs [Tryd.f4, h4', h, h1, h2, h3, h5]
    · generalize parsP s = x at h1 he
      obtain ⟨l, e⟩ := x
      refine .intro Tryd.func4 (by kernel_rfl) ((awake06_ev.and h1).imp fun k ⟨h, h1⟩ ro gl => ?_)
      simp [parsV] at h1 he
      simp -implicitDefEqProofs [Tryd.f4, h4', h, h1, he]
end Go.Proofs.YtkklkkppedociaaDoor.Ev
