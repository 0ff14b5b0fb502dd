/- Layer 1: sums. -/
import Derived.Test.YtkklkkppedociaaNum5
set_option linter.unusedVariables false
set_option linter.unusedSimpArgs false
set_option maxRecDepth 100000
set_option maxHeartbeats 2000000
namespace Go.Proofs.Ytkklkkppedociaa.Ev
open Go Go.RowKit

theorem arg_pair {P : Program} {K t e : Nat} {k : IntKind} {c : C} (hu : P.underlying t = some (.array 2 e)) (he : P.underlying e = some (.int k)) (hc : P.cellsOf t = 2) (hce : P.cellsOf e = 1) (h : ArgOf P (K + 2) t c) : ∃ a b, c = .agg [.d (.int k a), .d (.int k b)] := by
  obtain ⟨ds, h1, h2⟩ := h
  simp only [Shape, hu, he, hc, hce] at h1
  rw [isAgg_of hu] at h2
  rcases h2 with ⟨_, rfl⟩ | ⟨h, _⟩
  · obtain ⟨hl, hs⟩ := h1
    match ds, hl with
    | [a, b], _ =>
      obtain ⟨x, hx, _⟩ := hs 0 (by omega)
      obtain ⟨y, hy, _⟩ := hs 1 (by omega)
      simp at hx hy
      subst hx hy
      exact ⟨x, y, rfl⟩
  · cases h
theorem ValSums_ev (a : Int) (ha : -9223372036854775808 ≤ a ∧ a ≤ 9223372036854775807) (b : Int) (hb : -9223372036854775808 ≤ b ∧ b ≤ 9223372036854775807) (c : C) (hc : ∃ lo hi : Int, c = .agg [.d (.int .i64 lo), .d (.int .i64 hi)]) : Gives 4 [I a, I b, c] (V.bool true) := by
  obtain ⟨lo, hi, rfl⟩ := hc
  have b1 := near_le a
  have b2 := near_le b
  have b3 := mul_near a b
  have w1 : IntKind.i64.wrap (near a + near b) = near a + near b := i64w _ (by omega)
  have w2 : IntKind.i64.wrap (near a - near b) = near a - near b := i64w _ (by omega)
  have w3 : IntKind.i64.wrap (near a * near b) = near a * near b := i64w _ (by omega)
  have base := awake01_ev.and ((rNear_ev a).and ((rNear_ev b).and ((Clamp_ev a lo hi).and ((Near_ev a).and ((Plus_ev a b).and ((Minus_ev a b).and ((Times_ev a b).and ((rNear_ev (near a + near b)).and ((rNear_ev (near a - near b)).and (rNear_ev (near a * near b)))))))))))
  refine .intro Try.func4 (by decide) (base.imp fun k ⟨h0, h1, h2, h3, h4, h5, h6, h7, h8, h9, h10⟩ ro gl => ?_)
  unfold clamp at h3
  by_cases c1 : a < lo
  · rw [if_pos c1] at h3
    by_cases c2 : hi < a <;> simp -implicitDefEqProofs [Try.f4, h0, h1, h2, h3, h4, h5, h6, h7, h8, h9, h10, w1, w2, w3, c1, c2]
  · rw [if_neg c1] at h3
    by_cases c2 : hi < a
    · rw [if_pos c2] at h3
      simp -implicitDefEqProofs [Try.f4, h0, h1, h2, h3, h4, h5, h6, h7, h8, h9, h10, w1, w2, w3, c1, c2]
    · rw [if_neg c2] at h3
      simp -implicitDefEqProofs [Try.f4, h0, h1, h2, h3, h4, h5, h6, h7, h8, h9, h10, w1, w2, w3, c1, c2]
end Go.Proofs.Ytkklkkppedociaa.Ev
