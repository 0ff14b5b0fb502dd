/- Layer 8: the theorem of assignment; which values stand ahead. -/
import Derived.Test.YtckonoejmjblfaaGreatDoorPkRunB
import Derived.Test.YtckonoejmjblfaaGreatDoorPkAct2
set_option linter.unusedVariables false
set_option linter.unusedSimpArgs false
set_option maxRecDepth 100000
set_option maxHeartbeats 4000000
namespace Go.Proofs.YtckonoejmjblfaaGreatDoor.Ev
open Go Go.RowKit

/-! The example. -/
def aw1 : Ac := ⟨[120], true, []⟩
def aw2 : Ac := ⟨[120], false, [⟨4, 0, []⟩, ⟨2, 0, [120]⟩, ⟨1, 1, []⟩]⟩
def awE : En := ⟨[⟨[120], 0, 1, 0⟩], ⟨0, 0, 0, 0⟩, []⟩
def awT : Tr := .two ⟨4, 0, []⟩ (.leaf ⟨2, 0, [120]⟩) (.leaf ⟨1, 1, []⟩)
theorem awR1 : actsV [aw1, aw2] awE = ([⟨1, 0, 0, 0⟩], 0) := by kernel_rfl
theorem awR2 : actsV [aw1] awE = ([⟨0, 0, 0, 0⟩, ⟨1, 0, 0, 0⟩], 0) := by kernel_rfl
theorem awC : checkA [aw1, aw2] = 0 := by kernel_rfl
theorem dg1 : num 1 = [49] := by unfold num; rw [if_neg (by decide), dg_lt (by decide)]; rfl
theorem awP : putA [aw1, aw2] = [97, 110, 121, 32, 120, 44, 32, 120, 32, 58, 61, 32, 120, 32, 43, 32, 49] := by
  simp only [putA, actT, aw1, aw2, if_true, Bool.false_eq_true, if_false]
  rw [txtV_eq (e := awT) (by simp [awT, Tr.wf, arity]) (by rfl)]
  simp [awT, Tr.txt, brk, Tr.top, levelI, leftI, signB, dg1]
theorem awake08_ev : Gives 23 [] (V.bool true) := by
  have ok1 : aw1.Ok := ⟨by decide, by decide, (by intro u hu; cases hu)⟩
  have ok2 : aw2.Ok := ⟨by decide, by decide, (by intro u hu; simp [aw2] at hu; rcases hu with rfl | rfl | rfl <;> decide)⟩
  have okv : ∀ v ∈ awE.vars, v.Ok := by intro v hv; simp [awE] at hv; subst hv; exact ⟨⟨by decide, by decide⟩, ⟨by decide, by decide⟩⟩
  have h1 := Run_ev [aw1, aw2] awE okv (by decide) (by decide) (by intro a ha; simp at ha; rcases ha with rfl | rfl; exact ⟨ok1, by decide⟩; exact ⟨ok2, by decide⟩) (by decide)
  have h2 := Run_ev [aw1] awE okv (by decide) (by decide) (by intro a ha; simp at ha; subst ha; exact ⟨ok1, by decide⟩) (by decide)
  have h3 := APut_ev [aw1, aw2] (by decide) (by intro a ha; simp at ha; rcases ha with rfl | rfl; exact ok1; exact ok2)
  have h4 := Less_ev ⟨0, 0, 0, 0⟩ ⟨1, 0, 0, 0⟩
  rw [awR1] at h1
  rw [awR2] at h2
  rw [awC, if_pos rfl, awP] at h3
  rw [show ltQ ⟨0, 0, 0, 0⟩ ⟨1, 0, 0, 0⟩ = true from by decide] at h4
  refine .intro Tryz.func23 (by kernel_rfl) ((h1.and (h2.and (h3.and h4))).imp fun k ⟨h1, h2, h3, h4⟩ ro gl => ?_)
  simp [aw1, aw2, awE, Ac.c, Tm.c, En.w, En.ws, Vr.c, Q4.r, Q4.w] at h1 h2 h3 h4
  simp -implicitDefEqProofs [Tryz.f23, h1, h2, h3, h4]
end Go.Proofs.YtckonoejmjblfaaGreatDoor.Ev
