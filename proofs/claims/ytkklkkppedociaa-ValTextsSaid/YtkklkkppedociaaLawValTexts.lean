/- Law 'ValTexts': whatever the input, it returns true, and the input reads as it did. No condition. -/
import Derived.Test.YtkklkkppedociaaVal6
import Derived.Test.YtkklkkppedociaaRows
import Derived.KernelRfl
set_option linter.unusedVariables false
set_option linter.unusedSimpArgs false
set_option maxRecDepth 100000
namespace Go.Proofs.Ytkklkkppedociaa
open Go Go.RowKit Ev
theorem valTexts_goes : ∀ args, All2 (ArgOf Try.prog 9) Try.f3.params.toList args → ∃ n gl, evF Try.prog cf xt n 3 args false [] = some (V.bool true, gl) := by
  intro args h
  rw [show Try.f3.params.toList = Try.f3.params.toList from rfl] at h
  obtain ⟨c0, r0, rfl, a0, h⟩ := uncons' h
  obtain ⟨c1, r1, rfl, a1, h⟩ := uncons' h
  obtain rfl := nil' h
  obtain ⟨x0, rfl, w0⟩ := arg_int (k := .i64) (by kernel_rfl) a0
  obtain ⟨x1, rfl, w1⟩ := arg_str (by kernel_rfl) a1
  exact (ValTexts_ev x0 (i64_wf w0) x1 w1).goes
theorem valTexts_lifted (os : Os) (started : os.Started) (H : Type) (enc : TypeId × Value → H) :
    ReturnsInHanded {} Try.checked os 3 .any (Rows.valTextsSpec.pre6 enc Try.prog Try.f3 Rows.valTextsRow.domain false) (Rows.valTextsSpec.post enc Try.prog Try.f3 false true false false) :=
  lifted_of (C := Try.checked) (cfg := cf) (ext := xt) (K := 9) mixed ext_sound ownKnob_ laid_ Try.func3 (by kernel_rfl) rfl
    (fun H ds h => by
      match ds, h with
      | [d0, d1], _ => exact ⟨rfl, rfl, rfl⟩) (tb := 4) rfl (by kernel_rfl) (by kernel_rfl) (by kernel_rfl) valTexts_goes os started H enc
    (ChangeSpec.witness6 (enc := enc) (C := Try.checked) false ⟨#[], #[.int .i64 0, .string ⟨#[]⟩], []⟩ 8 (by kernel_rfl) (by kernel_rfl) (by kernel_rfl) (by kernel_rfl))
theorem valTexts_over : Rows.valTextsRow.holds Try.pinned (OpenSpec.ofChange Rows.valTextsSpec) :=
  OpenClaim.holds_of_wide 3 Try.f3 rfl rfl rfl rfl rfl rfl rfl ⟨rfl, rfl, rfl, rfl, rfl⟩ rfl rfl rfl rfl rfl (by kernel_rfl) Try.func3 (by kernel_rfl)
    (of_decide_eq_true (by kernel_rfl)) (by unfold Func.isWrapper; first | (rw [if_pos (by decide +kernel)]; kernel_rfl) | (rw [if_neg (by decide +kernel)]; exact ⟨rfl, rfl⟩))
    (fun os started H enc _ => valTexts_lifted os started H enc)
/-- The statement. -/
theorem valTexts_proved : Rows.ValTextsSaid := valTexts_over
#print axioms valTexts_proved
end Go.Proofs.Ytkklkkppedociaa
