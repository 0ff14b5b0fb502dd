/- Layer 4: cursors; what a cursor that has a fault does, or nobody's. -/
import Derived.Test.YtkklkkppedociaaGreatPkNam
import Derived.Test.YtkklkkppedociaaGreatPkNum
import Derived.Test.YtkklkkppedociaaGreatEvR
set_option linter.unusedVariables false
set_option linter.unusedSimpArgs false
set_option maxRecDepth 100000
set_option maxHeartbeats 2000000
namespace Go.Proofs.YtkklkkppedociaaGreat.Ev
open Go Go.RowKit

structure Tk where
  kind : Int
  text : List UInt8
  ln : Int
  cl : Int
deriving DecidableEq
def Tk.c (t : Tk) : List D := [.int .i64 t.kind, .str t.text, .int .i64 t.ln, .int .i64 t.cl]
def Tk.w (t : Tk) : C := .agg [.d (.int .i64 t.kind), .d (.str t.text), .d (.int .i64 t.ln), .d (.int .i64 t.cl)]
def tk0 : Tk := ⟨0, [], 0, 0⟩
def was (p : List Tk) : Tk := match p.getLast? with
  | none => tk0
  | some t => ⟨0, [], t.ln, t.cl⟩
def nx (p : List Tk) : List Tk → Tk
  | [] => was p
  | t :: _ => t
def cW (p r : List Tk) (ln cl e : Int) : List W := [.d (.bool true), .d (.sl (p.map Tk.c ++ r.map Tk.c)), .d (.int .i64 p.length), .d (.int .i64 ln), .d (.int .i64 cl), .d (.int .i64 e)]
/-- The cursor as the document has it. -/
def cR (p r : List Tk) (ln cl e : Int) : C := .agg [.d (.sl (r.map Tk.c)), .d (.int .i64 (was p).ln), .d (.int .i64 (was p).cl), .d (.int .i64 ln), .d (.int .i64 cl), .d (.int .i64 e)]

/-- A cursor, or none. -/
def Obj (x : W) : Prop := x = .nil ∨ ∃ o, x = .glo o 0
section
variable {G : List (List W) → W → Prop}
end
end Go.Proofs.YtkklkkppedociaaGreat.Ev

/- Layer 4: cursors, as the program goes on. -/
set_option linter.unusedVariables false
set_option linter.unusedSimpArgs false
set_option maxRecDepth 100000
set_option maxHeartbeats 2000000
namespace Go.Proofs.YtkklkkppedociaaGreat.Ev
open Go Go.RowKit

/-- A cursor: what was passed, what is left, the fault. -/
structure Cu where
  p : List Tk
  r : List Tk
  ln : Int
  cl : Int
  e : Int
def Cu.w (c : Cu) : List W := cW c.p c.r c.ln c.cl c.e
def Cu.ref (c : Cu) : C := cR c.p c.r c.ln c.cl c.e
def Cu.next (c : Cu) : Tk := if c.e = 0 then nx c.p c.r else tk0
def Cu.is (c : Cu) (k : Int) (t : List UInt8) : Bool := decide (c.e = 0) && (decide (c.next.kind = k) && decide (c.next.text = t))
def Cu.on (c : Cu) : Cu := match c.r with
  | [] => c
  | t :: r => { c with p := c.p ++ [t], r := r }
def Cu.fail (c : Cu) (e : Int) : Cu := if c.e = 0 ∧ e ≠ 0 then { c with ln := c.next.ln, cl := c.next.cl, e := e } else c
def Cu.take (c : Cu) (k : Int) (t : List UInt8) : Cu := if c.is k t then c.on else c
def Cu.want (c : Cu) (k : Int) (t : List UInt8) : Cu := if c.is k t then c.on else c.fail 2
def Cu.named (c : Cu) : Bool := decide (c.e = 0) && (decide (c.next.kind = 1) && isName c.next.text)
def Cu.name (c : Cu) : Cu × List UInt8 := if c.named then (c.on, c.next.text) else (c.fail 2, [])
def numOf (s : List UInt8) : Int × Int := match getR s with
  | .tup [.w (.d (.int _ n)), .w (.d (.int _ e))] => (n, e)
  | _ => (0, 0)
theorem getR_num' (s : List UInt8) : getR s = .tup [I (numOf s).1, I (numOf s).2] := by
  have : ∃ n e, getR s = .tup [I n, I e] := by
    unfold getR
    split
    · exact ⟨_, _, rfl⟩
    · unfold scanR
      split <;> exact ⟨_, _, rfl⟩
  obtain ⟨n, e, h⟩ := this
  simp only [numOf, h]
def Cu.number (c : Cu) (m : Int) : Cu × Int :=
  if c.e = 0 ∧ c.next.kind = 2 then
    if (numOf c.next.text).2 = 0 then (if m < (numOf c.next.text).1 then (c.fail 3, 0) else (c.on, (numOf c.next.text).1)) else (c.fail (numOf c.next.text).2, 0)
  else (c.fail 2, 0)
/-- Within bounds. -/
structure Cu.Ok (c : Cu) : Prop where
  len : c.p.length + c.r.length < 4611686018427387904
  text : ∀ t ∈ c.r, t.text.length < 4611686018427387904
theorem Cu.Ok.next {c : Cu} (h : c.Ok) : c.next.text.length < 4611686018427387904 := by
  have hw : ∀ p : List Tk, (was p).text = [] := fun p => by unfold was; split <;> rfl
  unfold Cu.next
  split
  · cases hr : c.r with
    | nil => simp [nx, hw]
    | cons t r => exact h.text t (by simp [hr])
  · simp [tk0]
theorem Cu.Ok.on {c : Cu} (h : c.Ok) : c.on.Ok := by
  unfold Cu.on
  split
  · exact h
  · rename_i t r hr
    exact ⟨by have := h.len; simp [hr] at this ⊢; omega, fun u hu => h.text u (by rw [hr]; exact List.mem_cons_of_mem _ hu)⟩
theorem Cu.Ok.fail {c : Cu} (h : c.Ok) (e : Int) : (c.fail e).Ok := by
  unfold Cu.fail
  split
  · exact ⟨h.len, h.text⟩
  · exact h
theorem Cu.Ok.take {c : Cu} (h : c.Ok) (k : Int) (t : List UInt8) : (c.take k t).Ok := by unfold Cu.take; split <;> first | exact h.on | exact h
theorem Cu.Ok.want {c : Cu} (h : c.Ok) (k : Int) (t : List UInt8) : (c.want k t).Ok := by unfold Cu.want; split <;> first | exact h.on | exact h.fail _
theorem Cu.Ok.name {c : Cu} (h : c.Ok) : c.name.1.Ok := by unfold Cu.name; split <;> first | exact h.on | exact h.fail _
theorem Cu.Ok.number {c : Cu} (h : c.Ok) (m : Int) : (c.number m).1.Ok := by
  unfold Cu.number
  split
  · split
    · split
      · exact h.fail _
      · exact h.on
    · exact h.fail _
  · exact h.fail _
theorem Cu.on_e (c : Cu) : c.on.e = c.e := by unfold Cu.on; split <;> rfl

theorem was_snoc (p : List Tk) (t : Tk) : was (p ++ [t]) = ⟨0, [], t.ln, t.cl⟩ := by simp [was]
section
variable {c : Cu}
theorem Obj.glo (o : Nat) : Obj (.glo o 0) := .inr ⟨o, rfl⟩
end
end Go.Proofs.YtkklkkppedociaaGreat.Ev

/- Layer 4: cursors, as the document goes on. -/
set_option linter.unusedVariables false
set_option linter.unusedSimpArgs false
set_option maxRecDepth 100000
set_option maxHeartbeats 2000000
namespace Go.Proofs.YtkklkkppedociaaGreat.Ev
open Go Go.RowKit

section
variable {c : Cu}
end
end Go.Proofs.YtkklkkppedociaaGreat.Ev
