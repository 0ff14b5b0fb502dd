/- Law 'TransPuts': whatever the input, it returns true, and the input reads as it did: its card. -/
import Derived.Test.YtkklkkppedociaaGreatDoorPkLaw9
import Derived.Test.YtkklkkppedociaaGreatDoorLaid
import Derived.Test.YtkklkkppedociaaGreatDoorCards
import Derived.Test.YtkklkkppedociaaGreatDoorTie
import Derived.KernelRfl
import Derived.ProofKit
import Derived.LaidMore
import Derived.SevenTiedAt
set_option linter.unusedVariables false
set_option linter.unusedSimpArgs false
set_option maxRecDepth 100000
namespace Go.Proofs.YtkklkkppedociaaGreatDoor
open Go Go.RowKit Ev
theorem transPuts_goes : ∀ args, All2 (ArgOf Tryz.prog 9) Tryz.f5.params.toList args → ∃ n gl, evF Tryz.prog cf xt n 5 args 0 [] = some (V.bool true, gl) := by
  intro args h
  rw [show Tryz.f5.params.toList = Tryz.f5.params.toList from rfl] at h
  obtain ⟨c0, r0, rfl, a0, h⟩ := uncons' h
  obtain ⟨c1, r1, rfl, a1, h⟩ := uncons' h
  obtain rfl := nil' h
  exact (TransPuts_ev c0 c1 a0 a1).goes
/-- A world for the witness: the tables hold what the row lists. -/
noncomputable def tabW (os : Os) : World :=
  { World.doorLaid Tryz.prog 400 os with heap := (World.doorLaid Tryz.prog 400 os).heap.modify 1 fun
      | .cells _ t fz => .cells (Go.Pinned.utf8FirstZ.map fun (n : Nat) => Value.int .u8 n).toArray t fz
      | o => o }
theorem transPuts_met (os : Os) (args : Array Value) : laidMetH Tryz.prog Rows.transPutsRow.laid ((tabW os).forCall (fun _ _ => 0) ⟨#[], args, []⟩).memory :=
  laidMetH_of_parts3 (fuel := 8) (laidMet_of_run' 8 (by kernel_rfl) (by kernel_rfl)) (by kernel_rfl) (by kernel_rfl)
theorem transPuts_lifted (os : Os) (started : os.Started) (H : Type) (enc : TypeId × Value → H) :
    ReturnsInHanded {} Tryz.checked os 5 .any (fun w args => (Rows.transPutsSpec.pre enc Tryz.prog Tryz.f5 [] false w args ∧ laidMetH Tryz.prog Rows.transPutsRow.laid w) ∧ sizedMet enc Tryz.prog Tryz.f5 (OpenSpec.ofChange Rows.transPutsSpec) false w args)
      (Rows.transPutsSpec.post enc Tryz.prog Tryz.f5 false true false false) :=
  lifted_and (C := Tryz.checked) (cfg := cf) (ext := xt) (K := 9) (X := fun w _ => laidMetH Tryz.prog Rows.transPutsRow.laid w) (fun _ _ _ hh h => h.of_heap hh) mixed ext_sound ownKnob_ laid_ Tryz.func5 rfl (by kernel_rfl) rfl
    (fun H ds h => by
      match ds, h with
      | [d0, d1], _ => exact ⟨rfl, rfl, rfl⟩) (tb := 4) rfl (by kernel_rfl) (by kernel_rfl) (by kernel_rfl) transPuts_goes os started H enc
    (ChangeSpec.witness_shaped (enc := enc) (C := Tryz.checked) (os := os) (X := fun w _ => laidMetH Tryz.prog Rows.transPutsRow.laid w) false (tabW os) #[.agg #[.string ⟨#[]⟩, .slice none 0 0, .slice none 0 0, .string ⟨#[]⟩], .agg #[.string ⟨#[]⟩, .slice none 0 0, .slice none 0 0, .string ⟨#[]⟩]] 8 rfl (World.shaped_of_RefB (by kernel_rfl) (by kernel_rfl)) (by kernel_rfl) (by kernel_rfl) (by kernel_rfl) (transPuts_met os _))
theorem transPuts_over : Rows.TransPutsSaid :=
  OpenClaim.holds_of_wide 5 Tryz.f5 rfl rfl rfl rfl rfl rfl rfl ⟨rfl, rfl, rfl, rfl, rfl⟩ rfl rfl rfl rfl rfl (by kernel_rfl) Tryz.func5 (by kernel_rfl)
    (of_decide_eq_true (by kernel_rfl)) (by unfold Func.isWrapper; first | (rw [if_pos (by decide +kernel)]; kernel_rfl) | (rw [if_neg (by decide +kernel)]; exact ⟨rfl, rfl⟩))
    (fun os started H enc _ => transPuts_lifted os started H enc)
theorem transPuts_plain (f : FuncId) (fn : Func) (hf : Tryz.pinned.checked.prog.funcNamed "semblance/semblancelaw09.TransPuts" = some f) (hfn : Tryz.pinned.checked.prog.funcs[f]? = some fn) :
    false = Tryz.pinned.checked.prog.looks [] ∧ ∀ (j : Nat) t, fn.params[j]? = some t → Tryz.pinned.checked.prog.wantsStandIn t = false := by
  obtain rfl : f = 5 := Option.some.inj ((show Tryz.prog.funcNamed "semblance/semblancelaw09.TransPuts" = some 5 by kernel_rfl).symm.trans hf) |>.symm
  obtain rfl : fn = Tryz.f5 := (Option.some.inj (Tryz.func5.symm.trans hfn)).symm
  refine ⟨by kernel_rfl, fun j t ht => ?_⟩
  have hm : t ∈ Tryz.f5.params.toList := by simpa using Array.mem_of_getElem? ht
  have hall : (Tryz.f5.params.toList.all fun u => !Tryz.prog.wantsStandIn u) = true := by kernel_rfl
  exact (show Tryz.prog.wantsStandIn t = false by simpa using List.all_eq_true.1 hall t hm)
/-- The statement. -/
theorem transPuts_proved : Rows.TransPutsCardSaid :=
  Claim7.holds_tied_plain_at .later [] _ _ _ _ transPuts_over (fun _ h => by cases h) (by kernel_rfl) (fun _ h => by cases h) transPuts_row_tie rfl ⟨rfl, rfl⟩ (by kernel_rfl) rfl transPuts_plain (by kernel_rfl)
#print axioms transPuts_proved
end Go.Proofs.YtkklkkppedociaaGreatDoor
