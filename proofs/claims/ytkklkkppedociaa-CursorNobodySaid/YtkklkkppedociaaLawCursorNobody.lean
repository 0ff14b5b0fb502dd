/- Law 'CursorNobody': whatever the input, it returns true, and the input reads as it did. No condition. -/
import Derived.Test.YtkklkkppedociaaCur5
import Derived.Test.YtkklkkppedociaaRows
import Derived.KernelRfl
set_option linter.unusedVariables false
set_option linter.unusedSimpArgs false
set_option maxRecDepth 100000
namespace Go.Proofs.Ytkklkkppedociaa
open Go Go.RowKit Ev
theorem cursorNobody_goes : ∀ args, All2 (ArgOf Try.prog 9) Try.f7.params.toList args → ∃ n gl, evF Try.prog cf xt n 7 args false [] = some (V.bool true, gl) := by
  intro args h
  rw [show Try.f7.params.toList = Try.f7.params.toList from rfl] at h
  obtain ⟨c0, r0, rfl, a0, h⟩ := uncons' h
  obtain rfl := nil' h
  exact (CursorNobody_ev c0 a0).goes
theorem cursorNobody_lifted (os : Os) (started : os.Started) (H : Type) (enc : TypeId × Value → H) :
    ReturnsInHanded {} Try.checked os 7 .any (Rows.cursorNobodySpec.pre6 enc Try.prog Try.f7 Rows.cursorNobodyRow.domain false) (Rows.cursorNobodySpec.post enc Try.prog Try.f7 false true false false) :=
  lifted_of (C := Try.checked) (cfg := cf) (ext := xt) (K := 9) mixed ext_sound ownKnob_ laid_ Try.func7 (by kernel_rfl) rfl
    (fun H ds h => by
      match ds, h with
      | [d0], _ => exact ⟨rfl, rfl, rfl⟩) (tb := 4) rfl (by kernel_rfl) (by kernel_rfl) (by kernel_rfl) cursorNobody_goes os started H enc
    (ChangeSpec.witness6 (enc := enc) (C := Try.checked) false ⟨#[], #[.agg #[.int .i64 0, .int .i64 0, .string ⟨#[]⟩, .int .i64 0]], []⟩ 8 (by kernel_rfl) (by kernel_rfl) (by kernel_rfl) (by kernel_rfl))
theorem cursorNobody_over : Rows.cursorNobodyRow.holds Try.pinned (OpenSpec.ofChange Rows.cursorNobodySpec) :=
  OpenClaim.holds_of_wide 7 Try.f7 rfl rfl rfl rfl rfl rfl rfl ⟨rfl, rfl, rfl, rfl, rfl⟩ rfl rfl rfl rfl rfl (by kernel_rfl) Try.func7 (by kernel_rfl)
    (of_decide_eq_true (by kernel_rfl)) (by unfold Func.isWrapper; first | (rw [if_pos (by decide +kernel)]; kernel_rfl) | (rw [if_neg (by decide +kernel)]; exact ⟨rfl, rfl⟩))
    (fun os started H enc _ => cursorNobody_lifted os started H enc)
/-- The statement. -/
theorem cursorNobody_proved : Rows.CursorNobodySaid := cursorNobody_over
#print axioms cursorNobody_proved
end Go.Proofs.Ytkklkkppedociaa
