/- Layer 4: cursors, as the program goes on. -/
import Derived.Test.YtkklkkppedociaaCur
set_option linter.unusedVariables false
set_option linter.unusedSimpArgs false
set_option maxRecDepth 100000
set_option maxHeartbeats 2000000
namespace Go.Proofs.Ytkklkkppedociaa.Ev
open Go Go.RowKit

/-- A cursor: what was passed, what is left, the fault. -/
structure Cu where
  p : List Tk
  r : List Tk
  ln : Int
  cl : Int
  e : Int
def Cu.w (c : Cu) : List W := cW c.p c.r c.ln c.cl c.e
def Cu.ref (c : Cu) : C := cR c.p c.r c.ln c.cl c.e
def Cu.next (c : Cu) : Tk := if c.e = 0 then nx c.p c.r else tk0
def Cu.is (c : Cu) (k : Int) (t : List UInt8) : Bool := decide (c.e = 0) && (decide (c.next.kind = k) && decide (c.next.text = t))
def Cu.on (c : Cu) : Cu := match c.r with
  | [] => c
  | t :: r => { c with p := c.p ++ [t], r := r }
def Cu.fail (c : Cu) (e : Int) : Cu := if c.e = 0 ∧ e ≠ 0 then { c with ln := c.next.ln, cl := c.next.cl, e := e } else c
def Cu.take (c : Cu) (k : Int) (t : List UInt8) : Cu := if c.is k t then c.on else c
def Cu.want (c : Cu) (k : Int) (t : List UInt8) : Cu := if c.is k t then c.on else c.fail 2
def Cu.named (c : Cu) : Bool := decide (c.e = 0) && (decide (c.next.kind = 1) && isName c.next.text)
def Cu.name (c : Cu) : Cu × List UInt8 := if c.named then (c.on, c.next.text) else (c.fail 2, [])
def numOf (s : List UInt8) : Int × Int := match getR s with
  | .tup [.w (.d (.int _ n)), .w (.d (.int _ e))] => (n, e)
  | _ => (0, 0)
theorem getR_num' (s : List UInt8) : getR s = .tup [I (numOf s).1, I (numOf s).2] := by
  have : ∃ n e, getR s = .tup [I n, I e] := by
    unfold getR
    split
    · exact ⟨_, _, rfl⟩
    · unfold scanR
      split <;> exact ⟨_, _, rfl⟩
  obtain ⟨n, e, h⟩ := this
  simp only [numOf, h]
def Cu.number (c : Cu) (m : Int) : Cu × Int :=
  if c.e = 0 ∧ c.next.kind = 2 then
    if (numOf c.next.text).2 = 0 then (if m < (numOf c.next.text).1 then (c.fail 3, 0) else (c.on, (numOf c.next.text).1)) else (c.fail (numOf c.next.text).2, 0)
  else (c.fail 2, 0)
/-- Within bounds. -/
structure Cu.Ok (c : Cu) : Prop where
  len : c.p.length + c.r.length < 4611686018427387904
  text : ∀ t ∈ c.r, t.text.length < 4611686018427387904
theorem Cu.Ok.next {c : Cu} (h : c.Ok) : c.next.text.length < 4611686018427387904 := by
  have hw : ∀ p : List Tk, (was p).text = [] := fun p => by unfold was; split <;> rfl
  unfold Cu.next
  split
  · cases hr : c.r with
    | nil => simp [nx, hw]
    | cons t r => exact h.text t (by simp [hr])
  · simp [tk0]
theorem Cu.Ok.on {c : Cu} (h : c.Ok) : c.on.Ok := by
  unfold Cu.on
  split
  · exact h
  · rename_i t r hr
    exact ⟨by have := h.len; simp [hr] at this ⊢; omega, fun u hu => h.text u (by rw [hr]; exact List.mem_cons_of_mem _ hu)⟩
theorem Cu.Ok.fail {c : Cu} (h : c.Ok) (e : Int) : (c.fail e).Ok := by
  unfold Cu.fail
  split
  · exact ⟨h.len, h.text⟩
  · exact h
theorem Cu.Ok.take {c : Cu} (h : c.Ok) (k : Int) (t : List UInt8) : (c.take k t).Ok := by unfold Cu.take; split <;> first | exact h.on | exact h
theorem Cu.Ok.want {c : Cu} (h : c.Ok) (k : Int) (t : List UInt8) : (c.want k t).Ok := by unfold Cu.want; split <;> first | exact h.on | exact h.fail _
theorem Cu.Ok.name {c : Cu} (h : c.Ok) : c.name.1.Ok := by unfold Cu.name; split <;> first | exact h.on | exact h.fail _
theorem Cu.Ok.number {c : Cu} (h : c.Ok) (m : Int) : (c.number m).1.Ok := by
  unfold Cu.number
  split
  · split
    · split
      · exact h.fail _
      · exact h.on
    · exact h.fail _
  · exact h.fail _
theorem Cu.on_e (c : Cu) : c.on.e = c.e := by unfold Cu.on; split <;> rfl

theorem was_snoc (p : List Tk) (t : Tk) : was (p ++ [t]) = ⟨0, [], t.ln, t.cl⟩ := by simp [was]
section
variable {gl : List (List W)} {o : Nat} {c : Cu}
theorem Obj.glo (o : Nat) : Obj (.glo o 0) := .inr ⟨o, rfl⟩
theorem good_c (h : gl[o]? = some c.w) : Reads 24 [.w (.glo o 0)] gl (V.bool (decide (c.e = 0))) := good_ev h
theorem good_bad (h : gl[o]? = some c.w) (he : ¬ c.e = 0) : Reads 24 [.w (.glo o 0)] gl (V.bool false) := by
  have := good_c h
  rwa [decide_eq_false he] at this
theorem next_c (h : gl[o]? = some c.w) (hk : c.Ok) : Reads 22 [.w (.glo o 0)] gl (.c c.next.w) := by
  unfold Cu.next
  by_cases he : c.e = 0
  · rw [if_pos he]
    have hg := good_c h
    rw [decide_eq_true he] at hg
    refine .intro Try.func22 (by kernel_rfl) (hg.imp fun k h1 ro => ?_)
    obtain ⟨p, r, ln, cl, e⟩ := c
    simp only [Cu.w, cW] at h
    cases r with
    | nil =>
      rcases List.eq_nil_or_concat p with rfl | ⟨q, t, rfl⟩
      · simp -implicitDefEqProofs [Try.f22, h, h1, Tk.w, nx, was, tk0]
      · have hk1 := hk.len
        simp at hk1
        have w : IntKind.i64.wrap (q.length : Int) = q.length := i64w _ (by omega)
        have g1 : ¬ ((q.length : Int) + 1 = 0) := by omega
        have g2 : (q.length : Int) < q.length + 1 := by omega
        simp -implicitDefEqProofs [Try.f22, h, h1, Tk.w, Tk.c, nx, was_snoc, tk0, w, g1, g2]
    | cons t r =>
      have g1 : ¬ ((p.length : Int) + (r.length + 1) = 0) := by omega
      have g2 : ¬ ((p.length : Int) + (r.length + 1) ≤ p.length) := by omega
      have g3 : (p.length : Int) < p.length + (r.length + 1) := by omega
      simp -implicitDefEqProofs [Try.f22, h, h1, Tk.w, Tk.c, nx, g1, g2, g3]
  · rw [if_neg he]
    exact next_no (Obj.glo o) (good_bad h he)
theorem is_c (h : gl[o]? = some c.w) (hk : c.Ok) (kd : Int) (t : List UInt8) : Reads 33 [.w (.glo o 0), I kd, T t] gl (V.bool (c.is kd t)) := by
  refine .intro Try.func33 (by kernel_rfl) ((next_c h hk).and (good_c h) |>.imp fun k ⟨h1, h2⟩ ro => ?_)
  unfold Cu.is
  by_cases he : c.e = 0
  · by_cases e1 : c.next.kind = kd
    · by_cases e2 : c.next.text = t
      · simp -implicitDefEqProofs [Try.f33, h1, h2, Tk.w, he, e1, e2]
      · simp -implicitDefEqProofs [Try.f33, h1, h2, Tk.w, he, e1, e2]
    · simp -implicitDefEqProofs [Try.f33, h1, h2, Tk.w, he, e1]
  · simp -implicitDefEqProofs [Try.f33, h1, h2, Tk.w, he]
theorem on_c (h : gl[o]? = some c.w) (hk : c.Ok) : Does 44 [.w (.glo o 0)] gl (.tup []) (gl.set o c.on.w) := by
  refine .intro Try.func44 (by kernel_rfl) (.of fun k => ?_)
  have hk1 := hk.len
  obtain ⟨p, r, ln, cl, e⟩ := c
  cases r with
  | nil =>
    rw [show Cu.on ⟨p, [], ln, cl, e⟩ = ⟨p, [], ln, cl, e⟩ from rfl, set_same h]
    simp only [Cu.w, cW] at h
    simp -implicitDefEqProofs [Try.f44, h]
  | cons t r =>
    simp only [Cu.w, cW] at h
    simp only [List.length_cons] at hk1
    have g3 : (p.length : Int) < p.length + (r.length + 1) := by omega
    have w : IntKind.i64.wrap ((p.length : Int) + 1) = (p.length : Int) + 1 := i64w _ (by omega)
    simp -implicitDefEqProofs [Try.f44, h, g3, w, Cu.on, Cu.w, cW]
theorem fail_c (h : gl[o]? = some c.w) (hk : c.Ok) (e : Int) : Does 36 [.w (.glo o 0), I e] gl (.tup []) (gl.set o (c.fail e).w) := by
  unfold Cu.fail
  by_cases he : c.e = 0
  · refine .intro Try.func36 (by kernel_rfl) ((next_c h hk).and (good_c h) |>.imp fun k ⟨h1, h2⟩ => ?_)
    by_cases h0 : e = 0
    · rw [if_neg (by simp [h0]), set_same h]
      simp -implicitDefEqProofs [Try.f36, h2, he, h0]
    · rw [if_pos ⟨he, h0⟩]
      simp only [Cu.w, cW] at h
      simp -implicitDefEqProofs [Try.f36, h1, h2, he, h0, h, Cu.w, cW, Tk.w]
  · rw [if_neg (by simp [he]), set_same h]
    exact (fail_no (Obj.glo o) (good_bad h he) e).does
theorem take_c (h : gl[o]? = some c.w) (hk : c.Ok) (kd : Int) (t : List UInt8) : Does 26 [.w (.glo o 0), I kd, T t] gl (V.bool (c.is kd t)) (gl.set o (c.take kd t).w) := by
  refine .intro Try.func26 (by kernel_rfl) ((is_c h hk kd t).and (on_c h hk) |>.imp fun k ⟨h1, h2⟩ => ?_)
  unfold Cu.take
  cases hb : c.is kd t with
  | true => simp -implicitDefEqProofs [Try.f26, h1, h2, hb]
  | false =>
    rw [if_neg (by simp), set_same h]
    simp -implicitDefEqProofs [Try.f26, h1, hb]
theorem want_c (h : gl[o]? = some c.w) (hk : c.Ok) (kd : Int) (t : List UInt8) : Does 28 [.w (.glo o 0), I kd, T t] gl (.tup []) (gl.set o (c.want kd t).w) := by
  refine .intro Try.func28 (by kernel_rfl) ((take_c h hk kd t).and (fail_c h hk 2) |>.imp fun k ⟨h1, h2⟩ => ?_)
  unfold Cu.take at h1
  unfold Cu.want
  cases hb : c.is kd t with
  | true =>
    rw [hb, if_pos rfl] at h1
    simp -implicitDefEqProofs [Try.f28, h1]
  | false =>
    rw [hb, if_neg (by simp), set_same h] at h1
    simp -implicitDefEqProofs [Try.f28, h1, h2]
theorem name_c (h : gl[o]? = some c.w) (hk : c.Ok) : Does 30 [.w (.glo o 0)] gl (V.str c.name.2) (gl.set o c.name.1.w) := by
  refine .intro Try.func30 (by kernel_rfl) ((next_c h hk).and ((nIs_ev c.next.text hk.next).and ((fail_c h hk 2).and (on_c h hk))) |>.imp fun k ⟨h1, h2, h3, h4⟩ => ?_)
  unfold Cu.name Cu.named
  by_cases he : c.e = 0
  · by_cases e1 : c.next.kind = 1
    · cases e2 : isName c.next.text with
      | true => simp -implicitDefEqProofs [Try.f30, h1, h2, h4, Tk.w, he, e1, e2]
      | false => simp -implicitDefEqProofs [Try.f30, h1, h2, h3, Tk.w, he, e1, e2]
    · simp -implicitDefEqProofs [Try.f30, h1, h3, Tk.w, he, e1]
  · have e1 : ¬ c.next.kind = 1 := by simp [Cu.next, he, tk0]
    simp -implicitDefEqProofs [Try.f30, h1, h3, Tk.w, he, e1]
theorem number_c (h : gl[o]? = some c.w) (hk : c.Ok) (m : Int) : Does 32 [.w (.glo o 0), I m] gl (.c (I (c.number m).2)) (gl.set o (c.number m).1.w) := by
  have g := Get_ev c.next.text hk.next
  rw [getR_num'] at g
  refine .intro Try.func32 (by kernel_rfl) ((next_c h hk).and (g.and ((good_c h).and ((fail_c h hk 2).and ((fail_c h hk 3).and ((fail_c h hk (numOf c.next.text).2).and (on_c h hk)))))) |>.imp fun k ⟨h1, h2, h3, h4, h5, h6, h7⟩ => ?_)
  unfold Cu.number
  by_cases he : c.e = 0
  · by_cases e1 : c.next.kind = 2
    · rw [if_pos ⟨he, e1⟩]
      generalize numOf c.next.text = q at h2 h6 ⊢
      obtain ⟨n, e⟩ := q
      simp only at h2 h6 ⊢
      by_cases e2 : e = 0
      · rw [if_pos e2]
        by_cases e3 : m < n
        · rw [if_pos e3]
          simp -implicitDefEqProofs [Try.f32, h1, h2, h5, Tk.w, he, e1, e2, e3]
        · rw [if_neg e3]
          simp -implicitDefEqProofs [Try.f32, h1, h2, h3, h7, Tk.w, he, e1, e2, e3]
      · rw [if_neg e2]
        simp -implicitDefEqProofs [Try.f32, h1, h2, h6, Tk.w, he, e1, e2]
    · rw [if_neg (by simp [e1])]
      simp -implicitDefEqProofs [Try.f32, h1, h2, h4, Tk.w, he, e1]
  · have e1 : ¬ c.next.kind = 2 := by simp [Cu.next, he, tk0]
    rw [if_neg (by simp [e1])]
    simp -implicitDefEqProofs [Try.f32, h1, h2, h4, Tk.w, he, e1]
end
end Go.Proofs.Ytkklkkppedociaa.Ev
