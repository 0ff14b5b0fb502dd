/- Law 'CursorAsks': whatever the input, it returns true, and the input reads as it did. No condition. -/
import Derived.Test.YtkklkkppedociaaCur7
import Derived.Test.YtkklkkppedociaaRows
import Derived.KernelRfl
set_option linter.unusedVariables false
set_option linter.unusedSimpArgs false
set_option maxRecDepth 100000
namespace Go.Proofs.Ytkklkkppedociaa
open Go Go.RowKit Ev
theorem cursorAsks_goes : ∀ args, All2 (ArgOf Try.prog 9) Try.f6.params.toList args → ∃ n gl, evF Try.prog cf xt n 6 args false [] = some (V.bool true, gl) := by
  intro args h
  rw [show Try.f6.params.toList = Try.f6.params.toList from rfl] at h
  obtain ⟨c0, r0, rfl, a0, h⟩ := uncons' h
  obtain ⟨c1, r1, rfl, a1, h⟩ := uncons' h
  obtain rfl := nil' h
  exact (CursorAsks_ev c0 a0 c1 a1).goes
theorem cursorAsks_lifted (os : Os) (started : os.Started) (H : Type) (enc : TypeId × Value → H) :
    ReturnsInHanded {} Try.checked os 6 .any (Rows.cursorAsksSpec.pre6 enc Try.prog Try.f6 Rows.cursorAsksRow.domain false) (Rows.cursorAsksSpec.post enc Try.prog Try.f6 false true false false) :=
  lifted_of (C := Try.checked) (cfg := cf) (ext := xt) (K := 9) mixed ext_sound ownKnob_ laid_ Try.func6 (by kernel_rfl) rfl
    (fun H ds h => by
      match ds, h with
      | [d0, d1], _ => exact ⟨rfl, rfl, rfl⟩) (tb := 4) rfl (by kernel_rfl) (by kernel_rfl) (by kernel_rfl) cursorAsks_goes os started H enc
    (ChangeSpec.witness6 (enc := enc) (C := Try.checked) false ⟨#[], #[.slice none 0 0, .slice none 0 0], []⟩ 8 (by kernel_rfl) (by kernel_rfl) (by kernel_rfl) (by kernel_rfl))
theorem cursorAsks_over : Rows.cursorAsksRow.holds Try.pinned (OpenSpec.ofChange Rows.cursorAsksSpec) :=
  OpenClaim.holds_of_wide 6 Try.f6 rfl rfl rfl rfl rfl rfl rfl ⟨rfl, rfl, rfl, rfl, rfl⟩ rfl rfl rfl rfl rfl (by kernel_rfl) Try.func6 (by kernel_rfl)
    (of_decide_eq_true (by kernel_rfl)) (by unfold Func.isWrapper; first | (rw [if_pos (by decide +kernel)]; kernel_rfl) | (rw [if_neg (by decide +kernel)]; exact ⟨rfl, rfl⟩))
    (fun os started H enc _ => cursorAsks_lifted os started H enc)
/-- The statement. -/
theorem cursorAsks_proved : Rows.CursorAsksSaid := cursorAsks_over
#print axioms cursorAsks_proved
end Go.Proofs.Ytkklkkppedociaa
