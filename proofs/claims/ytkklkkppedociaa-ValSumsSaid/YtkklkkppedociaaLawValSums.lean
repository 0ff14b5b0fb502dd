/- Law 'ValSums': whatever the input, it returns true, and the input reads as it did. No condition. -/
import Derived.Test.YtkklkkppedociaaNum7
import Derived.Test.YtkklkkppedociaaRows
import Derived.KernelRfl
set_option linter.unusedVariables false
set_option linter.unusedSimpArgs false
set_option maxRecDepth 100000
namespace Go.Proofs.Ytkklkkppedociaa
open Go Go.RowKit Ev
theorem valSums_goes : ∀ args, All2 (ArgOf Try.prog 9) Try.f4.params.toList args → ∃ n gl, evF Try.prog cf xt n 4 args false [] = some (V.bool true, gl) := by
  intro args h
  rw [show Try.f4.params.toList = Try.f4.params.toList from rfl] at h
  obtain ⟨c0, r0, rfl, a0, h⟩ := uncons' h
  obtain ⟨c1, r1, rfl, a1, h⟩ := uncons' h
  obtain ⟨c2, r2, rfl, a2, h⟩ := uncons' h
  obtain rfl := nil' h
  obtain ⟨x0, rfl, w0⟩ := arg_int (k := .i64) (by kernel_rfl) a0
  obtain ⟨x1, rfl, w1⟩ := arg_int (k := .i64) (by kernel_rfl) a1
  exact (ValSums_ev x0 (i64_wf w0) x1 (i64_wf w1) c2 (arg_pair (k := .i64) (e := 3) (by kernel_rfl) (by kernel_rfl) (by kernel_rfl) (by kernel_rfl) a2)).goes
theorem valSums_lifted (os : Os) (started : os.Started) (H : Type) (enc : TypeId × Value → H) :
    ReturnsInHanded {} Try.checked os 4 .any (Rows.valSumsSpec.pre6 enc Try.prog Try.f4 Rows.valSumsRow.domain false) (Rows.valSumsSpec.post enc Try.prog Try.f4 false true false false) :=
  lifted_of (C := Try.checked) (cfg := cf) (ext := xt) (K := 9) mixed ext_sound ownKnob_ laid_ Try.func4 (by kernel_rfl) rfl
    (fun H ds h => by
      match ds, h with
      | [d0, d1, d2], _ => exact ⟨rfl, rfl, rfl⟩) (tb := 4) rfl (by kernel_rfl) (by kernel_rfl) (by kernel_rfl) valSums_goes os started H enc
    (ChangeSpec.witness6 (enc := enc) (C := Try.checked) false ⟨#[], #[.int .i64 0, .int .i64 0, .agg #[.int .i64 0, .int .i64 0]], []⟩ 8 (by kernel_rfl) (by kernel_rfl) (by kernel_rfl) (by kernel_rfl))
theorem valSums_over : Rows.valSumsRow.holds Try.pinned (OpenSpec.ofChange Rows.valSumsSpec) :=
  OpenClaim.holds_of_wide 4 Try.f4 rfl rfl rfl rfl rfl rfl rfl ⟨rfl, rfl, rfl, rfl, rfl⟩ rfl rfl rfl rfl rfl (by kernel_rfl) Try.func4 (by kernel_rfl)
    (of_decide_eq_true (by kernel_rfl)) (by unfold Func.isWrapper; first | (rw [if_pos (by decide +kernel)]; kernel_rfl) | (rw [if_neg (by decide +kernel)]; exact ⟨rfl, rfl⟩))
    (fun os started H enc _ => valSums_lifted os started H enc)
/-- The statement. -/
theorem valSums_proved : Rows.ValSumsSaid := valSums_over
#print axioms valSums_proved
end Go.Proofs.Ytkklkkppedociaa
