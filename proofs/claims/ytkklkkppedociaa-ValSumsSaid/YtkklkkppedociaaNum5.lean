/- Layer 1: the laws' bodies. -/
import Derived.Test.YtkklkkppedociaaNum2
import Derived.Test.YtkklkkppedociaaNum4
set_option linter.unusedVariables false
set_option linter.unusedSimpArgs false
set_option maxRecDepth 100000
set_option maxHeartbeats 2000000
namespace Go.Proofs.Ytkklkkppedociaa.Ev
open Go Go.RowKit

theorem awake01_ev : Gives 9 [] (V.bool true) := by
  refine .intro Try.func9 (by decide) (((Get_ev [49, 48, 53] (by simp)).and ((Get_ev [49, 48, 48, 48, 48, 48, 49] (by simp)).and ((Get_ev [48, 53] (by simp)).and ((Times_ev 5000 5000).and ((Minus_ev 3 5).and (Put_ev (-70) (by omega))))))).imp fun n ⟨h1, h2, h3, h4, h5, h6⟩ ro gl => ?_)
  rw [show getR [49, 48, 53] = .tup [I 105, I 0] from by simp [getR, scan, scanR]] at h1
  rw [show getR [49, 48, 48, 48, 48, 48, 49] = .tup [I 0, I 3] from by simp [getR, scan, scanR]] at h2
  rw [show getR [48, 53] = .tup [I 0, I 2] from by simp [getR, scan, scanR]] at h3
  rw [show near (near 5000 * near 5000) = 1000000 from by decide] at h4
  rw [show near (near 3 - near 5) = -2 from by decide] at h5
  rw [show num (-70) = [45, 55, 48] from by simp [num, dg_ge, dg_lt]] at h6
  simp -implicitDefEqProofs [Try.f9, h1, h2, h3, h4, h5, h6]

theorem near_mono {x y : Int} (h : x ≤ y) : near x ≤ near y := by
  unfold near clamp
  split <;> split <;> (try split) <;> (try split) <;> omega
theorem ValLaws_ev (a : Int) (ha : -9223372036854775808 ≤ a ∧ a ≤ 9223372036854775807) (b : Int) (hb : -9223372036854775808 ≤ b ∧ b ≤ 9223372036854775807) (c : Int) (hc : -9223372036854775808 ≤ c ∧ c ≤ 9223372036854775807) : Gives 5 [I a, I b, I c] (V.bool true) := by
  have key : ∀ x y : Int, x ≤ y → Evt fun n => ∀ lo hi : Int, lo = x → hi = y → 
      (∀ ro gl, ev n 17 [I lo, I c] ro gl = some (V.int .i64 (near (near x + near c)), gl)) ∧
      (∀ ro gl, ev n 17 [I hi, I c] ro gl = some (V.int .i64 (near (near y + near c)), gl)) ∧
      (∀ ro gl, ev n 18 [I lo, I c] ro gl = some (V.int .i64 (near (near x - near c)), gl)) ∧
      (∀ ro gl, ev n 18 [I hi, I c] ro gl = some (V.int .i64 (near (near y - near c)), gl)) ∧
      (∀ ro gl, ev n 19 [I lo, I c] ro gl = some (V.int .i64 (near (near x * near c)), gl)) ∧
      (∀ ro gl, ev n 19 [I hi, I c] ro gl = some (V.int .i64 (near (near y * near c)), gl)) ∧
      ¬ near (near y + near c) < near (near x + near c) ∧ ¬ near (near y - near c) < near (near x - near c) ∧
      (0 ≤ c → near (near x * near c) ≤ near (near y * near c)) ∧ (¬ 0 ≤ c → near (near y * near c) ≤ near (near x * near c)) := by
    intro x y hxy
    have m := near_mono hxy
    refine ((Plus_ev x c).and ((Plus_ev y c).and ((Minus_ev x c).and ((Minus_ev y c).and ((Times_ev x c).and (Times_ev y c)))))).imp fun n ⟨h1, h2, h3, h4, h5, h6⟩ lo hi e1 e2 => ?_
    subst e1 e2
    refine ⟨h1, h2, h3, h4, h5, h6, Int.not_lt.2 (near_mono (by omega)), Int.not_lt.2 (near_mono (by omega)), fun hc => near_mono ?_, fun hc => near_mono ?_⟩
    · exact Int.mul_le_mul_of_nonneg_right m (by unfold near clamp; split <;> (try split) <;> omega)
    · exact Int.mul_le_mul_of_nonpos_right m (by unfold near clamp; split <;> (try split) <;> omega)
  have p2 := Plus_ev b a
  have t2 := Times_ev b a
  rw [Int.add_comm] at p2
  rw [Int.mul_comm] at t2
  by_cases hab : b < a
  · refine .intro Try.func5 (by decide) ((awake01_ev.and ((Plus_ev a b).and (p2.and ((Times_ev a b).and (t2.and (key b a (by omega))))))).imp fun n ⟨h0, h1, h2, h3, h4, h5⟩ ro gl => ?_)
    obtain ⟨k1, k2, k3, k4, k5, k6, k7, k8, k9, k10⟩ := h5 b a rfl rfl
    by_cases hc : 0 ≤ c
    · have k := k9 hc
      simp -implicitDefEqProofs [Try.f5, h0, h1, h2, h3, h4, k1, k2, k3, k4, k5, k6, k7, k8, k, hab, hc]
    · have k := k10 hc
      simp -implicitDefEqProofs [Try.f5, h0, h1, h2, h3, h4, k1, k2, k3, k4, k5, k6, k7, k8, k, hab, hc]
  · refine .intro Try.func5 (by decide) ((awake01_ev.and ((Plus_ev a b).and (p2.and ((Times_ev a b).and (t2.and (key a b (by omega))))))).imp fun n ⟨h0, h1, h2, h3, h4, h5⟩ ro gl => ?_)
    obtain ⟨k1, k2, k3, k4, k5, k6, k7, k8, k9, k10⟩ := h5 a b rfl rfl
    by_cases hc : 0 ≤ c
    · have k := k9 hc
      simp -implicitDefEqProofs [Try.f5, h0, h1, h2, h3, h4, k1, k2, k3, k4, k5, k6, k7, k8, k, hab, hc]
    · have k := k10 hc
      simp -implicitDefEqProofs [Try.f5, h0, h1, h2, h3, h4, k1, k2, k3, k4, k5, k6, k7, k8, k, hab, hc]
end Go.Proofs.Ytkklkkppedociaa.Ev
