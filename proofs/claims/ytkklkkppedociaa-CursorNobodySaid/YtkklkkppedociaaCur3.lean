/- Layer 4: cursors, as the document goes on. -/
import Derived.Test.YtkklkkppedociaaCur2
set_option linter.unusedVariables false
set_option linter.unusedSimpArgs false
set_option maxRecDepth 100000
set_option maxHeartbeats 2000000
namespace Go.Proofs.Ytkklkkppedociaa.Ev
open Go Go.RowKit

section
variable {c : Cu}
theorem rNext_c : Gives 23 [c.ref] (.c c.next.w) := by
  refine .intro Try.func23 (by kernel_rfl) (.of fun k ro gl => ?_)
  obtain ⟨p, r, ln, cl, e⟩ := c
  by_cases he : e = 0
  · cases r with
    | nil =>
      have hw : (was p).kind = 0 ∧ (was p).text = [] := by unfold was; split <;> exact ⟨rfl, rfl⟩
      simp -implicitDefEqProofs [Try.f23, Cu.ref, cR, Cu.next, nx, he, Tk.w, hw]
    | cons t r =>
      have g1 : ¬ ((r.length : Int) + 1 = 0) := by omega
      have g2 : (0 : Int) < r.length + 1 := by omega
      simp -implicitDefEqProofs [Try.f23, Cu.ref, cR, Cu.next, nx, he, Tk.w, Tk.c, g1, g2]
  · simp -implicitDefEqProofs [Try.f23, Cu.ref, cR, Cu.next, he, Tk.w, tk0]
theorem rOn_c (hk : c.Ok) : Gives 43 [c.ref] (.c c.on.ref) := by
  refine .intro Try.func43 (by kernel_rfl) (.of fun k ro gl => ?_)
  have hk1 := hk.len
  obtain ⟨p, r, ln, cl, e⟩ := c
  cases r with
  | nil => simp -implicitDefEqProofs [Try.f43, Cu.ref, cR, Cu.on]
  | cons t r =>
    simp only [List.length_cons] at hk1
    have g1 : (0 : Int) < r.length + 1 := by omega
    have g2 : (1 : Int) ≤ r.length + 1 := by omega
    simp -implicitDefEqProofs [Try.f43, Cu.ref, cR, Cu.on, Tk.c, was_snoc, g1, g2]
theorem rFail_c (e : Int) : Gives 35 [c.ref, I e] (.c (c.fail e).ref) := by
  refine .intro Try.func35 (by kernel_rfl) ((rNext_c (c := c)).imp fun k h1 ro gl => ?_)
  unfold Cu.fail
  simp only [Cu.ref, cR] at h1
  by_cases he : c.e = 0
  · rw [he] at h1
    by_cases h0 : e = 0
    · rw [if_neg (by simp [h0])]
      simp -implicitDefEqProofs [Try.f35, Cu.ref, cR, he, h0]
    · rw [if_pos ⟨he, h0⟩]
      simp -implicitDefEqProofs [Try.f35, Cu.ref, cR, he, h0, h1, Tk.w]
  · rw [if_neg (by simp [he])]
    simp -implicitDefEqProofs [Try.f35, Cu.ref, cR, he]
theorem rIs_c (kd : Int) (t : List UInt8) : Gives 34 [c.ref, I kd, T t] (V.bool (c.is kd t)) := by
  refine .intro Try.func34 (by kernel_rfl) ((rNext_c (c := c)).imp fun k h1 ro gl => ?_)
  unfold Cu.is
  simp only [Cu.ref, cR] at h1
  by_cases he : c.e = 0
  · rw [he] at h1
    by_cases e1 : c.next.kind = kd
    · by_cases e2 : c.next.text = t
      · simp -implicitDefEqProofs [Try.f34, Cu.ref, cR, h1, Tk.w, he, e1, e2]
      · simp -implicitDefEqProofs [Try.f34, Cu.ref, cR, h1, Tk.w, he, e1, e2]
    · simp -implicitDefEqProofs [Try.f34, Cu.ref, cR, h1, Tk.w, he, e1]
  · simp -implicitDefEqProofs [Try.f34, Cu.ref, cR, h1, Tk.w, he]
theorem rTake_c (hk : c.Ok) (kd : Int) (t : List UInt8) : Gives 25 [c.ref, I kd, T t] (.tup [(c.take kd t).ref, B (c.is kd t)]) := by
  refine .intro Try.func25 (by kernel_rfl) ((rIs_c (c := c) kd t).and (rOn_c hk) |>.imp fun k ⟨h1, h2⟩ ro gl => ?_)
  unfold Cu.take
  simp only [Cu.ref, cR] at h1 h2
  cases hb : c.is kd t with
  | true => simp -implicitDefEqProofs [Try.f25, Cu.ref, cR, h1, h2, hb]
  | false => simp -implicitDefEqProofs [Try.f25, Cu.ref, cR, h1, hb]
theorem rWant_c (hk : c.Ok) (kd : Int) (t : List UInt8) : Gives 27 [c.ref, I kd, T t] (.c (c.want kd t).ref) := by
  refine .intro Try.func27 (by kernel_rfl) ((rIs_c (c := c) kd t).and ((rOn_c hk).and (rFail_c (c := c) 2)) |>.imp fun k ⟨h1, h2, h3⟩ ro gl => ?_)
  unfold Cu.want
  simp only [Cu.ref, cR] at h1 h2 h3
  cases hb : c.is kd t with
  | true => simp -implicitDefEqProofs [Try.f27, Cu.ref, cR, h1, h2, hb]
  | false => simp -implicitDefEqProofs [Try.f27, Cu.ref, cR, h1, h3, hb]
theorem rName_c (hk : c.Ok) : Gives 29 [c.ref] (.tup [c.name.1.ref, T c.name.2]) := by
  refine .intro Try.func29 (by kernel_rfl) ((rNext_c (c := c)).and ((rIs_ev c.next.text hk.next).and ((rFail_c (c := c) 2).and (rOn_c hk))) |>.imp fun k ⟨h1, h2, h3, h4⟩ ro gl => ?_)
  unfold Cu.name Cu.named
  simp only [Cu.ref, cR] at h1 h3 h4
  by_cases he : c.e = 0
  · rw [he] at h1 h3 h4
    by_cases e1 : c.next.kind = 1
    · cases e2 : isName c.next.text with
      | true => simp -implicitDefEqProofs [Try.f29, Cu.ref, cR, h1, h2, h4, Tk.w, he, e1, e2]
      | false => simp -implicitDefEqProofs [Try.f29, Cu.ref, cR, h1, h2, h3, Tk.w, he, e1, e2]
    · simp -implicitDefEqProofs [Try.f29, Cu.ref, cR, h1, h3, Tk.w, he, e1]
  · simp -implicitDefEqProofs [Try.f29, Cu.ref, cR, h1, h3, Tk.w, he]
theorem rNumber_c (hk : c.Ok) (m : Int) : Gives 31 [c.ref, I m] (.tup [(c.number m).1.ref, I (c.number m).2]) := by
  have g := rGet_ev c.next.text hk.next
  rw [getR_num'] at g
  refine .intro Try.func31 (by kernel_rfl) ((rNext_c (c := c)).and (g.and ((rFail_c (c := c) 2).and ((rFail_c (c := c) 3).and ((rFail_c (c := c) (numOf c.next.text).2).and (rOn_c hk))))) |>.imp fun k ⟨h1, h2, h4, h5, h6, h7⟩ ro gl => ?_)
  unfold Cu.number
  simp only [Cu.ref, cR] at h1 h4 h5 h6 h7
  by_cases he : c.e = 0
  · rw [he] at h1 h4 h5 h6 h7
    by_cases e1 : c.next.kind = 2
    · rw [if_pos ⟨he, e1⟩]
      generalize numOf c.next.text = q at h2 h6 ⊢
      obtain ⟨n, e⟩ := q
      simp only at h2 h6 ⊢
      by_cases e2 : e = 0
      · rw [if_pos e2]
        by_cases e3 : m < n
        · rw [if_pos e3]
          simp -implicitDefEqProofs [Try.f31, Cu.ref, cR, h1, h2, h5, Tk.w, he, e1, e2, e3]
        · rw [if_neg e3]
          simp -implicitDefEqProofs [Try.f31, Cu.ref, cR, h1, h2, h7, Tk.w, he, e1, e2, e3]
      · rw [if_neg e2]
        simp -implicitDefEqProofs [Try.f31, Cu.ref, cR, h1, h2, h6, Tk.w, he, e1, e2]
    · rw [if_neg (by simp [e1])]
      simp -implicitDefEqProofs [Try.f31, Cu.ref, cR, h1, h4, Tk.w, he, e1]
  · rw [if_neg (by simp [he])]
    simp -implicitDefEqProofs [Try.f31, Cu.ref, cR, h1, h4, Tk.w, he]
end
end Go.Proofs.Ytkklkkppedociaa.Ev
