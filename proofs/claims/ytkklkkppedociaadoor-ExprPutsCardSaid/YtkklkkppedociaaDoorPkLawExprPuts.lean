/- Law 'ExprPuts': whatever the input, it returns true, and the input reads as it did: its card. -/
import Derived.Test.YtkklkkppedociaaDoorPkLaw6p
import Derived.Test.YtkklkkppedociaaDoorLaid
import Derived.Test.YtkklkkppedociaaDoorCards
import Derived.Test.YtkklkkppedociaaDoorTie
import Derived.KernelRfl
import Derived.ProofKit
import Derived.LaidMore
import Derived.SevenTiedAt
set_option linter.unusedVariables false
set_option linter.unusedSimpArgs false
set_option maxRecDepth 100000
namespace Go.Proofs.YtkklkkppedociaaDoor
open Go Go.RowKit Ev
theorem exprPuts_goes : ∀ args, All2 (ArgOf Tryd.prog 9) Tryd.f3.params.toList args → ∃ n gl, evF Tryd.prog cf xt n 3 args 0 [] = some (V.bool true, gl) := by
  intro args h
  rw [show Tryd.f3.params.toList = Tryd.f3.params.toList from rfl] at h
  obtain ⟨c0, r0, rfl, a0, h⟩ := uncons' h
  obtain rfl := nil' h
  exact (ExprPuts_ev c0 a0).goes
/-- A world for the witness: the tables hold what the row lists. -/
noncomputable def tabW (os : Os) : World :=
  { World.doorLaid Tryd.prog 400 os with heap := (World.doorLaid Tryd.prog 400 os).heap.modify 1 fun
      | .cells _ t fz => .cells (Go.Pinned.utf8FirstZ.map fun (n : Nat) => Value.int .u8 n).toArray t fz
      | o => o }
theorem exprPuts_met (os : Os) (args : Array Value) : laidMetH Tryd.prog Rows.exprPutsRow.laid ((tabW os).forCall (fun _ _ => 0) ⟨#[], args, []⟩).memory :=
  laidMetH_of_parts3 (fuel := 8) (laidMet_of_run' 8 (by kernel_rfl) (by kernel_rfl)) (by kernel_rfl) (by kernel_rfl)
theorem exprPuts_lifted (os : Os) (started : os.Started) (H : Type) (enc : TypeId × Value → H) :
    ReturnsInHanded {} Tryd.checked os 3 .any (fun w args => (Rows.exprPutsSpec.pre enc Tryd.prog Tryd.f3 [] false w args ∧ laidMetH Tryd.prog Rows.exprPutsRow.laid w) ∧ sizedMet enc Tryd.prog Tryd.f3 (OpenSpec.ofChange Rows.exprPutsSpec) false w args)
      (Rows.exprPutsSpec.post enc Tryd.prog Tryd.f3 false true false false) :=
  lifted_and (C := Tryd.checked) (cfg := cf) (ext := xt) (K := 9) (X := fun w _ => laidMetH Tryd.prog Rows.exprPutsRow.laid w) (fun _ _ _ hh h => h.of_heap hh) mixed ext_sound ownKnob_ laid_ Tryd.func3 rfl (by kernel_rfl) rfl
    (fun H ds h => by
      match ds, h with
      | [d0], _ => exact ⟨rfl, rfl, rfl⟩) (tb := 4) rfl (by kernel_rfl) (by kernel_rfl) (by kernel_rfl) exprPuts_goes os started H enc
    (ChangeSpec.witness_shaped (enc := enc) (C := Tryd.checked) (os := os) (X := fun w _ => laidMetH Tryd.prog Rows.exprPutsRow.laid w) false (tabW os) #[.slice none 0 0] 8 rfl (World.shaped_of_RefB (by kernel_rfl) (by kernel_rfl)) (by kernel_rfl) (by kernel_rfl) (by kernel_rfl) (exprPuts_met os _))
theorem exprPuts_over : Rows.ExprPutsSaid :=
  OpenClaim.holds_of_wide 3 Tryd.f3 rfl rfl rfl rfl rfl rfl rfl ⟨rfl, rfl, rfl, rfl, rfl⟩ rfl rfl rfl rfl rfl (by kernel_rfl) Tryd.func3 (by kernel_rfl)
    (of_decide_eq_true (by kernel_rfl)) (by unfold Func.isWrapper; first | (rw [if_pos (by decide +kernel)]; kernel_rfl) | (rw [if_neg (by decide +kernel)]; exact ⟨rfl, rfl⟩))
    (fun os started H enc _ => exprPuts_lifted os started H enc)
theorem exprPuts_plain (f : FuncId) (fn : Func) (hf : Tryd.pinned.checked.prog.funcNamed "semblance/semblancelaw06.ExprPuts" = some f) (hfn : Tryd.pinned.checked.prog.funcs[f]? = some fn) :
    false = Tryd.pinned.checked.prog.looks [] ∧ ∀ (j : Nat) t, fn.params[j]? = some t → Tryd.pinned.checked.prog.wantsStandIn t = false := by
  obtain rfl : f = 3 := Option.some.inj ((show Tryd.prog.funcNamed "semblance/semblancelaw06.ExprPuts" = some 3 by kernel_rfl).symm.trans hf) |>.symm
  obtain rfl : fn = Tryd.f3 := (Option.some.inj (Tryd.func3.symm.trans hfn)).symm
  refine ⟨by kernel_rfl, fun j t ht => ?_⟩
  have hm : t ∈ Tryd.f3.params.toList := by simpa using Array.mem_of_getElem? ht
  have hall : (Tryd.f3.params.toList.all fun u => !Tryd.prog.wantsStandIn u) = true := by kernel_rfl
  exact (show Tryd.prog.wantsStandIn t = false by simpa using List.all_eq_true.1 hall t hm)
/-- The statement. -/
theorem exprPuts_proved : Rows.ExprPutsCardSaid :=
  Claim7.holds_tied_plain_at .later [] _ _ _ _ exprPuts_over (fun _ h => by cases h) (by kernel_rfl) (fun _ h => by cases h) exprPuts_row_tie rfl ⟨rfl, rfl⟩ (by kernel_rfl) rfl exprPuts_plain (by kernel_rfl)
#print axioms exprPuts_proved
end Go.Proofs.YtkklkkppedociaaDoor
