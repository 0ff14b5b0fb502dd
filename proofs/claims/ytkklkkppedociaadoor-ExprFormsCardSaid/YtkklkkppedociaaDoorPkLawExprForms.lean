/- Law 'ExprForms': whatever the input, it returns true, and the input reads as it did: its card. -/
import Derived.Test.YtkklkkppedociaaDoorPkLaw6f
import Derived.Test.YtkklkkppedociaaDoorLaid
import Derived.Test.YtkklkkppedociaaDoorCards
import Derived.Test.YtkklkkppedociaaDoorTie
import Derived.KernelRfl
import Derived.ProofKit
import Derived.LaidMore
import Derived.SevenTiedAt
set_option linter.unusedVariables false
set_option linter.unusedSimpArgs false
set_option maxRecDepth 100000
namespace Go.Proofs.YtkklkkppedociaaDoor
open Go Go.RowKit Ev
theorem exprForms_goes : ∀ args, All2 (ArgOf Tryd.prog 9) Tryd.f4.params.toList args → ∃ n gl, evF Tryd.prog cf xt n 4 args 0 [] = some (V.bool true, gl) := by
  intro args h
  rw [show Tryd.f4.params.toList = Tryd.f4.params.toList from rfl] at h
  obtain ⟨c0, r0, rfl, a0, h⟩ := uncons' h
  obtain rfl := nil' h
  obtain ⟨x0, rfl, w0⟩ := arg_str (by kernel_rfl) a0
  exact (ExprForms_ev x0 w0).goes
/-- A world for the witness: the tables hold what the row lists. -/
noncomputable def tabW (os : Os) : World :=
  { World.doorLaid Tryd.prog 400 os with heap := (World.doorLaid Tryd.prog 400 os).heap.modify 1 fun
      | .cells _ t fz => .cells (Go.Pinned.utf8FirstZ.map fun (n : Nat) => Value.int .u8 n).toArray t fz
      | o => o }
theorem exprForms_met (os : Os) (args : Array Value) : laidMetH Tryd.prog Rows.exprFormsRow.laid ((tabW os).forCall (fun _ _ => 0) ⟨#[], args, []⟩).memory :=
  laidMetH_of_parts3 (fuel := 8) (laidMet_of_run' 8 (by kernel_rfl) (by kernel_rfl)) (by kernel_rfl) (by kernel_rfl)
theorem exprForms_lifted (os : Os) (started : os.Started) (H : Type) (enc : TypeId × Value → H) :
    ReturnsInHanded {} Tryd.checked os 4 .any (fun w args => (Rows.exprFormsSpec.pre enc Tryd.prog Tryd.f4 [] false w args ∧ laidMetH Tryd.prog Rows.exprFormsRow.laid w) ∧ sizedMet enc Tryd.prog Tryd.f4 (OpenSpec.ofChange Rows.exprFormsSpec) false w args)
      (Rows.exprFormsSpec.post enc Tryd.prog Tryd.f4 false true false false) :=
  lifted_and (C := Tryd.checked) (cfg := cf) (ext := xt) (K := 9) (X := fun w _ => laidMetH Tryd.prog Rows.exprFormsRow.laid w) (fun _ _ _ hh h => h.of_heap hh) mixed ext_sound ownKnob_ laid_ Tryd.func4 rfl (by kernel_rfl) rfl
    (fun H ds h => by
      match ds, h with
      | [d0], _ => exact ⟨rfl, rfl, rfl⟩) (tb := 4) rfl (by kernel_rfl) (by kernel_rfl) (by kernel_rfl) exprForms_goes os started H enc
    (ChangeSpec.witness_shaped (enc := enc) (C := Tryd.checked) (os := os) (X := fun w _ => laidMetH Tryd.prog Rows.exprFormsRow.laid w) false (tabW os) #[.string ⟨#[]⟩] 8 rfl (World.shaped_of_RefB (by kernel_rfl) (by kernel_rfl)) (by kernel_rfl) (by kernel_rfl) (by kernel_rfl) (exprForms_met os _))
theorem exprForms_over : Rows.ExprFormsSaid :=
  OpenClaim.holds_of_wide 4 Tryd.f4 rfl rfl rfl rfl rfl rfl rfl ⟨rfl, rfl, rfl, rfl, rfl⟩ rfl rfl rfl rfl rfl (by kernel_rfl) Tryd.func4 (by kernel_rfl)
    (of_decide_eq_true (by kernel_rfl)) (by unfold Func.isWrapper; first | (rw [if_pos (by decide +kernel)]; kernel_rfl) | (rw [if_neg (by decide +kernel)]; exact ⟨rfl, rfl⟩))
    (fun os started H enc _ => exprForms_lifted os started H enc)
theorem exprForms_plain (f : FuncId) (fn : Func) (hf : Tryd.pinned.checked.prog.funcNamed "semblance/semblancelaw06.ExprForms" = some f) (hfn : Tryd.pinned.checked.prog.funcs[f]? = some fn) :
    false = Tryd.pinned.checked.prog.looks [] ∧ ∀ (j : Nat) t, fn.params[j]? = some t → Tryd.pinned.checked.prog.wantsStandIn t = false := by
  obtain rfl : f = 4 := Option.some.inj ((show Tryd.prog.funcNamed "semblance/semblancelaw06.ExprForms" = some 4 by kernel_rfl).symm.trans hf) |>.symm
  obtain rfl : fn = Tryd.f4 := (Option.some.inj (Tryd.func4.symm.trans hfn)).symm
  refine ⟨by kernel_rfl, fun j t ht => ?_⟩
  have hm : t ∈ Tryd.f4.params.toList := by simpa using Array.mem_of_getElem? ht
  have hall : (Tryd.f4.params.toList.all fun u => !Tryd.prog.wantsStandIn u) = true := by kernel_rfl
  exact (show Tryd.prog.wantsStandIn t = false by simpa using List.all_eq_true.1 hall t hm)
/-- The statement. -/
theorem exprForms_proved : Rows.ExprFormsCardSaid :=
  Claim7.holds_tied_plain_at .later [] _ _ _ _ exprForms_over (fun _ h => by cases h) (by kernel_rfl) (fun _ h => by cases h) exprForms_row_tie rfl ⟨rfl, rfl⟩ (by kernel_rfl) rfl exprForms_plain (by kernel_rfl)
#print axioms exprForms_proved
end Go.Proofs.YtkklkkppedociaaDoor
