/- Law 'ActPuts': whatever the input, it returns true, and the input reads as it did: its card. -/
import Derived.Test.YtckonoejmjblfaaGreatDoorPkLaw8p
import Derived.Test.YtckonoejmjblfaaGreatDoorCards
import Derived.Test.YtckonoejmjblfaaGreatDoorTie
import Derived.KernelRfl
import Derived.ProofKit
import Derived.LaidMore
import Derived.SevenTiedAt
set_option linter.unusedVariables false
set_option linter.unusedSimpArgs false
set_option maxRecDepth 100000
namespace Go.Proofs.YtckonoejmjblfaaGreatDoor
open Go Go.RowKit Ev
theorem actPuts_goes : ∀ args, All2 (ArgOf Tryz.prog 9) Tryz.f8.params.toList args → ∃ n gl, evF Tryz.prog cf xt n 8 args 0 [] = some (V.bool true, gl) := by
  intro args h
  rw [show Tryz.f8.params.toList = Tryz.f8.params.toList from rfl] at h
  obtain ⟨c0, r0, rfl, a0, h⟩ := uncons' h
  obtain rfl := nil' h
  exact (ActPuts_ev c0 a0).goes
/-- A world for the witness: the tables hold what the row lists. -/
noncomputable def tabW (os : Os) : World :=
  { World.doorLaid Tryz.prog 400 os with heap := (World.doorLaid Tryz.prog 400 os).heap.modify 1 fun
      | .cells _ t fz => .cells (Go.Pinned.utf8FirstZ.map fun (n : Nat) => Value.int .u8 n).toArray t fz
      | o => o }
theorem actPuts_met (os : Os) (args : Array Value) : laidMetH Tryz.prog Rows.actPutsRow.laid ((tabW os).forCall (fun _ _ => 0) ⟨#[], args, []⟩).memory :=
  laidMetH_of_parts3 (fuel := 8) (laidMet_of_run' 8 (by kernel_rfl) (by kernel_rfl)) (by kernel_rfl) (by kernel_rfl)
theorem actPuts_lifted (os : Os) (started : os.Started) (H : Type) (enc : TypeId × Value → H) :
    ReturnsInHanded {} Tryz.checked os 8 .any (fun w args => (Rows.actPutsSpec.pre enc Tryz.prog Tryz.f8 [] false w args ∧ laidMetH Tryz.prog Rows.actPutsRow.laid w) ∧ sizedMet enc Tryz.prog Tryz.f8 (OpenSpec.ofChange Rows.actPutsSpec) false w args)
      (Rows.actPutsSpec.post enc Tryz.prog Tryz.f8 false true false false) :=
  lifted_and (C := Tryz.checked) (cfg := cf) (ext := xt) (K := 9) (X := fun w _ => laidMetH Tryz.prog Rows.actPutsRow.laid w) (fun _ _ _ hh h => h.of_heap hh) base_ ext_sound ownKnob_ laid_ Tryz.func8 rfl (by kernel_rfl) rfl
    (fun H ds h => by
      match ds, h with
      | [d0], _ => exact ⟨rfl, rfl, rfl⟩) (tb := 4) rfl (by kernel_rfl) (by kernel_rfl) (by kernel_rfl) actPuts_goes os started H enc
    (ChangeSpec.witness_shaped (enc := enc) (C := Tryz.checked) (os := os) (X := fun w _ => laidMetH Tryz.prog Rows.actPutsRow.laid w) false (tabW os) #[.slice none 0 0] 8 rfl (World.shaped_of_RefB (by kernel_rfl) (by kernel_rfl)) (by kernel_rfl) (by kernel_rfl) (by kernel_rfl) (actPuts_met os _))
theorem actPuts_over : Rows.ActPutsSaid :=
  OpenClaim.holds_of_wide 8 Tryz.f8 rfl rfl rfl rfl rfl rfl rfl ⟨rfl, rfl, rfl, rfl, rfl⟩ rfl rfl rfl rfl rfl (by kernel_rfl) Tryz.func8 (by kernel_rfl)
    (of_decide_eq_true (by kernel_rfl)) (by unfold Func.isWrapper; first | (rw [if_pos (by decide +kernel)]; kernel_rfl) | (rw [if_neg (by decide +kernel)]; exact ⟨rfl, rfl⟩))
    (fun os started H enc _ => actPuts_lifted os started H enc)
theorem actPuts_plain (f : FuncId) (fn : Func) (hf : Tryz.pinned.checked.prog.funcNamed "semblance/semblancelaw08.ActPuts" = some f) (hfn : Tryz.pinned.checked.prog.funcs[f]? = some fn) :
    false = Tryz.pinned.checked.prog.looks [] ∧ ∀ (j : Nat) t, fn.params[j]? = some t → Tryz.pinned.checked.prog.wantsStandIn t = false := by
  obtain rfl : f = 8 := Option.some.inj ((show Tryz.prog.funcNamed "semblance/semblancelaw08.ActPuts" = some 8 by kernel_rfl).symm.trans hf) |>.symm
  obtain rfl : fn = Tryz.f8 := (Option.some.inj (Tryz.func8.symm.trans hfn)).symm
  refine ⟨by kernel_rfl, fun j t ht => ?_⟩
  have hm : t ∈ Tryz.f8.params.toList := by simpa using Array.mem_of_getElem? ht
  have hall : (Tryz.f8.params.toList.all fun u => !Tryz.prog.wantsStandIn u) = true := by kernel_rfl
  exact (show Tryz.prog.wantsStandIn t = false by simpa using List.all_eq_true.1 hall t hm)
/-- The statement. -/
theorem actPuts_proved : Rows.ActPutsCardSaid :=
  Claim7.holds_tied_plain_at .later [] _ _ _ _ actPuts_over (fun _ h => by cases h) (by kernel_rfl) (fun _ h => by cases h) actPuts_row_tie rfl ⟨rfl, rfl⟩ (by kernel_rfl) rfl actPuts_plain (by kernel_rfl)
#print axioms actPuts_proved
end Go.Proofs.YtckonoejmjblfaaGreatDoor
