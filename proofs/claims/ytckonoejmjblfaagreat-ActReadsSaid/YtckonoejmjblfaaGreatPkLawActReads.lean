/- Law 'ActReads': whatever the input, it returns true, and the input reads as it did. No condition. -/
import Derived.Test.YtckonoejmjblfaaGreatPkLaw8s
import Derived.Test.YtckonoejmjblfaaGreatRows
import Derived.KernelRfl
set_option linter.unusedVariables false
set_option linter.unusedSimpArgs false
set_option maxRecDepth 100000
namespace Go.Proofs.YtckonoejmjblfaaGreat
open Go Go.RowKit Ev
theorem actReads_goes : ∀ args, All2 (ArgOf Tryz.prog 9) Tryz.f3.params.toList args → ∃ n gl, evF Tryz.prog cf xt n 3 args 0 [] = some (V.bool true, gl) := by
  intro args h
  rw [show Tryz.f3.params.toList = Tryz.f3.params.toList from rfl] at h
  obtain ⟨c0, r0, rfl, a0, h⟩ := uncons' h
  obtain rfl := nil' h
  exact (ActReads_ev c0 a0).goes
theorem actReads_lifted (os : Os) (started : os.Started) (H : Type) (enc : TypeId × Value → H) :
    ReturnsInHanded {} Tryz.checked os 3 .any (Rows.actReadsSpec.pre6 enc Tryz.prog Tryz.f3 Rows.actReadsRow.domain false) (Rows.actReadsSpec.post enc Tryz.prog Tryz.f3 false true false false) :=
  lifted_of (C := Tryz.checked) (cfg := cf) (ext := xt) (K := 9) base_ ext_sound ownKnob_ laid_ Tryz.func3 rfl (by kernel_rfl) rfl
    (fun H ds h => by
      match ds, h with
      | [d0], _ => exact ⟨rfl, rfl, rfl⟩) (tb := 4) rfl (by kernel_rfl) (by kernel_rfl) (by kernel_rfl) actReads_goes os started H enc
    (ChangeSpec.witness6 (enc := enc) (C := Tryz.checked) false ⟨#[], #[.slice none 0 0], []⟩ 8 (by kernel_rfl) (by kernel_rfl) (by kernel_rfl) (by kernel_rfl))
theorem actReads_over : Rows.actReadsRow.holds Tryz.pinned (OpenSpec.ofChange Rows.actReadsSpec) :=
  OpenClaim.holds_of_wide 3 Tryz.f3 rfl rfl rfl rfl rfl rfl rfl ⟨rfl, rfl, rfl, rfl, rfl⟩ rfl rfl rfl rfl rfl (by kernel_rfl) Tryz.func3 (by kernel_rfl)
    (of_decide_eq_true (by kernel_rfl)) (by unfold Func.isWrapper; first | (rw [if_pos (by decide +kernel)]; kernel_rfl) | (rw [if_neg (by decide +kernel)]; exact ⟨rfl, rfl⟩))
    (fun os started H enc _ => actReads_lifted os started H enc)
/-- The statement. -/
theorem actReads_proved : Rows.ActReadsSaid := actReads_over
#print axioms actReads_proved
end Go.Proofs.YtckonoejmjblfaaGreat
