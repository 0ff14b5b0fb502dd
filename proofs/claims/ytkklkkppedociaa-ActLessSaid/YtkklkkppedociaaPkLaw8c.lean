/- Layer 8: which values stand ahead of others. -/
import Derived.Test.YtkklkkppedociaaPkLawQ
set_option linter.unusedVariables false
set_option linter.unusedSimpArgs false
set_option maxRecDepth 100000
set_option maxHeartbeats 4000000
namespace Go.Proofs.Ytkklkkppedociaa.Ev
open Go Go.RowKit

theorem ActLess_evL (p q : Q4) : Gives 8 [p.w, q.w] (V.bool true) := by
  have h1 := Less_ev p q
  have h2 := Less_ev q p
  have h3 := rLess_ev p q
  refine .intro Try.func8 (by kernel_rfl) ((h1.and (h2.and (h3.and awake08_ev))).imp fun k ⟨h1, h2, h3, h4⟩ ro gl => ?_)
  have he := eq_q4 p.a p.b p.c p.d q.a q.b q.c q.d
  by_cases hpq : p = q
  · have hne : decide ((⟨p.a, p.b, p.c, p.d⟩ : Q4) = ⟨q.a, q.b, q.c, q.d⟩) = true := decide_eq_true hpq
    rw [hne] at he
    have z1 : ltQ p q = false := by rw [hpq]; exact ltQ_irr q
    have z2 : ltQ q p = false := by rw [hpq]; exact ltQ_irr q
    rw [z1] at h1 h3
    rw [z2] at h2
    simp [Q4.w] at h1 h2 h3
    simp -implicitDefEqProofs [-eqVal, -eqVal.goA, Try.f8, Q4.w, h1, h2, h3, h4, he]
  · have hne : decide ((⟨p.a, p.b, p.c, p.d⟩ : Q4) = ⟨q.a, q.b, q.c, q.d⟩) = false := decide_eq_false hpq
    rw [hne] at he
    cases z1 : ltQ p q with
    | true =>
      have z2 : ltQ q p = false := by
        cases z2 : ltQ q p with
        | false => rfl
        | true => have := ltQ_trans z1 z2; rw [ltQ_irr] at this; cases this
      rw [z1] at h1 h3
      rw [z2] at h2
      simp [Q4.w] at h1 h2 h3
      simp -implicitDefEqProofs [-eqVal, -eqVal.goA, Try.f8, Q4.w, h1, h2, h3, h4, he]
    | false =>
      have z2 : ltQ q p = true := ltQ_tot z1 hpq
      rw [z1] at h1 h3
      rw [z2] at h2
      simp [Q4.w] at h1 h2 h3
      simp -implicitDefEqProofs [-eqVal, -eqVal.goA, Try.f8, Q4.w, h1, h2, h3, h4, he]
theorem ActLess_ev (c0 c1 : C) (h0 : ArgOf Try.prog 9 68 c0) (h1 : ArgOf Try.prog 9 68 c1) : Gives 8 [c0, c1] (V.bool true) := by
  obtain ⟨p, rfl⟩ := arg_vals h0
  obtain ⟨q, rfl⟩ := arg_vals h1
  exact ActLess_evL p q
end Go.Proofs.Ytkklkkppedociaa.Ev
