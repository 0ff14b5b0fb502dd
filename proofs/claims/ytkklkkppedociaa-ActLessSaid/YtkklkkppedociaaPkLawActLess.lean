/- Law 'ActLess': whatever the input, it returns true, and the input reads as it did. No condition. -/
import Derived.Test.YtkklkkppedociaaPkLaw8c
import Derived.Test.YtkklkkppedociaaRows
import Derived.KernelRfl
set_option linter.unusedVariables false
set_option linter.unusedSimpArgs false
set_option maxRecDepth 100000
namespace Go.Proofs.Ytkklkkppedociaa
open Go Go.RowKit Ev
theorem actLess_goes : ∀ args, All2 (ArgOf Try.prog 9) Try.f8.params.toList args → ∃ n gl, evF Try.prog cf xt n 8 args 0 [] = some (V.bool true, gl) := by
  intro args h
  rw [show Try.f8.params.toList = Try.f8.params.toList from rfl] at h
  obtain ⟨c0, r0, rfl, a0, h⟩ := uncons' h
  obtain ⟨c1, r1, rfl, a1, h⟩ := uncons' h
  obtain rfl := nil' h
  exact (ActLess_ev c0 c1 a0 a1).goes
theorem actLess_lifted (os : Os) (started : os.Started) (H : Type) (enc : TypeId × Value → H) :
    ReturnsInHanded {} Try.checked os 8 .any (Rows.actLessSpec.pre6 enc Try.prog Try.f8 Rows.actLessRow.domain false) (Rows.actLessSpec.post enc Try.prog Try.f8 false true false false) :=
  lifted_of (C := Try.checked) (cfg := cf) (ext := xt) (K := 9) base_ ext_sound ownKnob_ laid_ Try.func8 rfl (by kernel_rfl) rfl
    (fun H ds h => by
      match ds, h with
      | [d0, d1], _ => exact ⟨rfl, rfl, rfl⟩) (tb := 4) rfl (by kernel_rfl) (by kernel_rfl) (by kernel_rfl) actLess_goes os started H enc
    (ChangeSpec.witness6 (enc := enc) (C := Try.checked) false ⟨#[], #[.agg #[.int .i64 0, .int .i64 0, .int .i64 0, .int .i64 0], .agg #[.int .i64 0, .int .i64 0, .int .i64 0, .int .i64 0]], []⟩ 8 (by kernel_rfl) (by kernel_rfl) (by kernel_rfl) (by kernel_rfl))
theorem actLess_over : Rows.actLessRow.holds Try.pinned (OpenSpec.ofChange Rows.actLessSpec) :=
  OpenClaim.holds_of_wide 8 Try.f8 rfl rfl rfl rfl rfl rfl rfl ⟨rfl, rfl, rfl, rfl, rfl⟩ rfl rfl rfl rfl rfl (by kernel_rfl) Try.func8 (by kernel_rfl)
    (of_decide_eq_true (by kernel_rfl)) (by unfold Func.isWrapper; first | (rw [if_pos (by decide +kernel)]; kernel_rfl) | (rw [if_neg (by decide +kernel)]; exact ⟨rfl, rfl⟩))
    (fun os started H enc _ => actLess_lifted os started H enc)
/-- The statement. -/
theorem actLess_proved : Rows.ActLessSaid := actLess_over
#print axioms actLess_proved
end Go.Proofs.Ytkklkkppedociaa
