/- Layer 1: numbers that do not run over. -/
import Derived.Test.YtkklkkppedociaaEvO
set_option linter.unusedVariables false
set_option linter.unusedSimpArgs false
set_option maxRecDepth 100000
set_option maxHeartbeats 2000000
namespace Go.Proofs.Ytkklkkppedociaa.Ev
open Go Go.RowKit

def clamp (x lo hi : Int) : Int := if x < lo then lo else if hi < x then hi else x
def near (x : Int) : Int := clamp x (-1000000) 1000000
theorem near_le (x : Int) : -1000000 ≤ near x ∧ near x ≤ 1000000 := by unfold near clamp; split <;> (try split) <;> omega

theorem Clamp_ev (x lo hi : Int) : Gives 15 [I x, I lo, I hi] (V.int .i64 (clamp x lo hi)) := by
  refine .intro Try.func15 (by kernel_rfl) (.of fun n ro gl => ?_)
  unfold clamp
  by_cases h1 : x < lo
  · simp -implicitDefEqProofs [Try.f15, h1]
  · by_cases h2 : hi < x <;> simp -implicitDefEqProofs [Try.f15, h1, h2]
theorem Near_ev (x : Int) : Gives 16 [I x] (V.int .i64 (near x)) := by
  refine .intro Try.func16 (by kernel_rfl) ((Clamp_ev x (-1000000) 1000000).imp fun n h ro gl => ?_)
  simp -implicitDefEqProofs [Try.f16, cf, h, near]
theorem Plus_ev (x y : Int) : Gives 17 [I x, I y] (V.int .i64 (near (near x + near y))) := by
  refine .intro Try.func17 (by kernel_rfl) (((Near_ev x).and ((Near_ev y).and (Near_ev (near x + near y)))).imp fun n ⟨h1, h2, h3⟩ ro gl => ?_)
  have b1 := near_le x
  have b2 := near_le y
  have e : IntKind.i64.wrap (near x + near y) = near x + near y := IntWalk.i64_in _ (by omega)
  simp -implicitDefEqProofs [Try.f17, cf, h1, h2, h3, e]
theorem Minus_ev (x y : Int) : Gives 18 [I x, I y] (V.int .i64 (near (near x - near y))) := by
  refine .intro Try.func18 (by kernel_rfl) (((Near_ev x).and ((Near_ev y).and (Near_ev (near x - near y)))).imp fun n ⟨h1, h2, h3⟩ ro gl => ?_)
  have b1 := near_le x
  have b2 := near_le y
  have e : IntKind.i64.wrap (near x - near y) = near x - near y := IntWalk.i64_in _ (by omega)
  simp -implicitDefEqProofs [Try.f18, h1, h2, h3, e]
theorem mul_near (x y : Int) : -1000000000000 ≤ near x * near y ∧ near x * near y ≤ 1000000000000 := by
  have b1 := near_le x
  have b2 := near_le y
  generalize near x = a at *
  generalize near y = b at *
  have p1 := Int.mul_nonneg (a := 1000000 - a) (b := 1000000 - b) (by omega) (by omega)
  have p2 := Int.mul_nonneg (a := 1000000 + a) (b := 1000000 - b) (by omega) (by omega)
  have p3 := Int.mul_nonneg (a := 1000000 - a) (b := 1000000 + b) (by omega) (by omega)
  have p4 := Int.mul_nonneg (a := 1000000 + a) (b := 1000000 + b) (by omega) (by omega)
  simp only [Int.sub_mul, Int.mul_sub, Int.add_mul, Int.mul_add] at p1 p2 p3 p4
  omega
theorem Times_ev (x y : Int) : Gives 19 [I x, I y] (V.int .i64 (near (near x * near y))) := by
  refine .intro Try.func19 (by kernel_rfl) (((Near_ev x).and ((Near_ev y).and (Near_ev (near x * near y)))).imp fun n ⟨h1, h2, h3⟩ ro gl => ?_)
  have b1 := mul_near x y
  have e : IntKind.i64.wrap (near x * near y) = near x * near y := IntWalk.i64_in _ (by omega)
  simp -implicitDefEqProofs [Try.f19, h1, h2, h3, e]
theorem rNear_ev (x : Int) : Gives 14 [I x] (V.int .i64 (near x)) := by
  refine .intro Try.func14 (by kernel_rfl) (.of fun n ro gl => ?_)
  unfold near clamp
  by_cases h1 : 1000000 < x
  · have h2 : ¬ x < -1000000 := by omega
    simp -implicitDefEqProofs [Try.f14, h1, h2]
  · by_cases h2 : x < -1000000 <;> simp -implicitDefEqProofs [Try.f14, h1, h2]
end Go.Proofs.Ytkklkkppedociaa.Ev
