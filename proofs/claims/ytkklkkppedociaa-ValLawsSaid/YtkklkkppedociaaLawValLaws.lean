/- Law 'ValLaws': whatever the input, it returns true, and the input reads as it did. No condition. -/
import Derived.Test.YtkklkkppedociaaVal5
import Derived.Test.YtkklkkppedociaaRows
import Derived.KernelRfl
set_option linter.unusedVariables false
set_option linter.unusedSimpArgs false
set_option maxRecDepth 100000
namespace Go.Proofs.Ytkklkkppedociaa
open Go Go.RowKit Ev
theorem valLaws_goes : ∀ args, All2 (ArgOf Try.prog 9) Try.f5.params.toList args → ∃ n gl, evF Try.prog cf xt n 5 args false [] = some (V.bool true, gl) := by
  intro args h
  rw [show Try.f5.params.toList = Try.f5.params.toList from rfl] at h
  obtain ⟨c0, r0, rfl, a0, h⟩ := uncons' h
  obtain ⟨c1, r1, rfl, a1, h⟩ := uncons' h
  obtain ⟨c2, r2, rfl, a2, h⟩ := uncons' h
  obtain rfl := nil' h
  obtain ⟨x0, rfl, w0⟩ := arg_int (k := .i64) (by kernel_rfl) a0
  obtain ⟨x1, rfl, w1⟩ := arg_int (k := .i64) (by kernel_rfl) a1
  obtain ⟨x2, rfl, w2⟩ := arg_int (k := .i64) (by kernel_rfl) a2
  exact (ValLaws_ev x0 (i64_wf w0) x1 (i64_wf w1) x2 (i64_wf w2)).goes
theorem valLaws_lifted (os : Os) (started : os.Started) (H : Type) (enc : TypeId × Value → H) :
    ReturnsInHanded {} Try.checked os 5 .any (Rows.valLawsSpec.pre6 enc Try.prog Try.f5 Rows.valLawsRow.domain false) (Rows.valLawsSpec.post enc Try.prog Try.f5 false true false false) :=
  lifted_of (C := Try.checked) (cfg := cf) (ext := xt) (K := 9) mixed ext_sound ownKnob_ laid_ Try.func5 (by kernel_rfl) rfl
    (fun H ds h => by
      match ds, h with
      | [d0, d1, d2], _ => exact ⟨rfl, rfl, rfl⟩) (tb := 4) rfl (by kernel_rfl) (by kernel_rfl) (by kernel_rfl) valLaws_goes os started H enc
    (ChangeSpec.witness6 (enc := enc) (C := Try.checked) false ⟨#[], #[.int .i64 0, .int .i64 0, .int .i64 0], []⟩ 8 (by kernel_rfl) (by kernel_rfl) (by kernel_rfl) (by kernel_rfl))
theorem valLaws_over : Rows.valLawsRow.holds Try.pinned (OpenSpec.ofChange Rows.valLawsSpec) :=
  OpenClaim.holds_of_wide 5 Try.f5 rfl rfl rfl rfl rfl rfl rfl ⟨rfl, rfl, rfl, rfl, rfl⟩ rfl rfl rfl rfl rfl (by kernel_rfl) Try.func5 (by kernel_rfl)
    (of_decide_eq_true (by kernel_rfl)) (by unfold Func.isWrapper; first | (rw [if_pos (by decide +kernel)]; kernel_rfl) | (rw [if_neg (by decide +kernel)]; exact ⟨rfl, rfl⟩))
    (fun os started H enc _ => valLaws_lifted os started H enc)
/-- The statement. -/
theorem valLaws_proved : Rows.ValLawsSaid := valLaws_over
#print axioms valLaws_proved
end Go.Proofs.Ytkklkkppedociaa
