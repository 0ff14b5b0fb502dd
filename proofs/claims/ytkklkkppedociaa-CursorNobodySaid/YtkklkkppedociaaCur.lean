/- Layer 4: cursors; what a cursor that has a fault does, or nobody's. -/
import Derived.Test.YtkklkkppedociaaNam3
import Derived.Test.YtkklkkppedociaaNum4
set_option linter.unusedVariables false
set_option linter.unusedSimpArgs false
set_option maxRecDepth 100000
set_option maxHeartbeats 2000000
namespace Go.Proofs.Ytkklkkppedociaa.Ev
open Go Go.RowKit

structure Tk where
  kind : Int
  text : List UInt8
  ln : Int
  cl : Int
deriving DecidableEq
def Tk.c (t : Tk) : List D := [.int .i64 t.kind, .str t.text, .int .i64 t.ln, .int .i64 t.cl]
def Tk.w (t : Tk) : C := .agg [.d (.int .i64 t.kind), .d (.str t.text), .d (.int .i64 t.ln), .d (.int .i64 t.cl)]
def tk0 : Tk := ⟨0, [], 0, 0⟩
def was (p : List Tk) : Tk := match p.getLast? with
  | none => tk0
  | some t => ⟨0, [], t.ln, t.cl⟩
def nx (p : List Tk) : List Tk → Tk
  | [] => was p
  | t :: _ => t
def cW (p r : List Tk) (ln cl e : Int) : List W := [.d (.bool true), .d (.sl (p.map Tk.c ++ r.map Tk.c)), .d (.int .i64 p.length), .d (.int .i64 ln), .d (.int .i64 cl), .d (.int .i64 e)]
/-- The cursor as the document has it. -/
def cR (p r : List Tk) (ln cl e : Int) : C := .agg [.d (.sl (r.map Tk.c)), .d (.int .i64 (was p).ln), .d (.int .i64 (was p).cl), .d (.int .i64 ln), .d (.int .i64 cl), .d (.int .i64 e)]

/-- A cursor, or none. -/
def Obj (x : W) : Prop := x = .nil ∨ ∃ o, x = .glo o 0
section
variable {gl : List (List W)} {x : W}
theorem next_no (hx : Obj x) (hg : Reads 24 [.w x] gl (V.bool false)) : Reads 22 [.w x] gl (.c tk0.w) := by
  refine .intro Try.func22 (by kernel_rfl) (hg.imp fun k h ro => ?_)
  rcases hx with rfl | ⟨o, rfl⟩ <;>
  simp -implicitDefEqProofs [Try.f22, h, tk0, Tk.w]
theorem is_no (hx : Obj x) (hg : Reads 24 [.w x] gl (V.bool false)) (kd : Int) (t : List UInt8) : Reads 33 [.w x, I kd, T t] gl (V.bool false) := by
  refine .intro Try.func33 (by kernel_rfl) (hg.and (next_no hx hg) |>.imp fun k ⟨h, h1⟩ ro => ?_)
  rcases hx with rfl | ⟨o, rfl⟩ <;>
  simp -implicitDefEqProofs [Try.f33, h, h1, tk0, Tk.w]
theorem take_no (hx : Obj x) (hg : Reads 24 [.w x] gl (V.bool false)) (kd : Int) (t : List UInt8) : Reads 26 [.w x, I kd, T t] gl (V.bool false) := by
  refine .intro Try.func26 (by kernel_rfl) (is_no hx hg kd t |>.imp fun k h ro => ?_)
  rcases hx with rfl | ⟨o, rfl⟩ <;>
  simp -implicitDefEqProofs [Try.f26, h]
theorem fail_no (hx : Obj x) (hg : Reads 24 [.w x] gl (V.bool false)) (e : Int) : Reads 36 [.w x, I e] gl (.tup []) := by
  refine .intro Try.func36 (by kernel_rfl) (hg |>.imp fun k h ro => ?_)
  rcases hx with rfl | ⟨o, rfl⟩ <;>
  simp -implicitDefEqProofs [Try.f36, h]
theorem want_no (hx : Obj x) (hg : Reads 24 [.w x] gl (V.bool false)) (kd : Int) (t : List UInt8) : Reads 28 [.w x, I kd, T t] gl (.tup []) := by
  refine .intro Try.func28 (by kernel_rfl) ((take_no hx hg kd t).and (fail_no hx hg 2) |>.imp fun k ⟨h, h1⟩ ro => ?_)
  rcases hx with rfl | ⟨o, rfl⟩ <;>
  simp -implicitDefEqProofs [Try.f28, h, h1]
theorem name_no (hx : Obj x) (hg : Reads 24 [.w x] gl (V.bool false)) : Reads 30 [.w x] gl (V.str []) := by
  refine .intro Try.func30 (by kernel_rfl) ((next_no hx hg).and (fail_no hx hg 2) |>.imp fun k ⟨h, h1⟩ ro => ?_)
  rcases hx with rfl | ⟨o, rfl⟩ <;>
  simp -implicitDefEqProofs [Try.f30, h, h1, tk0, Tk.w]
theorem number_no (hx : Obj x) (hg : Reads 24 [.w x] gl (V.bool false)) (m : Int) : Reads 32 [.w x, I m] gl (.c (I 0)) := by
  have g := Get_ev [] (by simp)
  rw [show getR [] = .tup [I 0, I 2] from rfl] at g
  refine .intro Try.func32 (by kernel_rfl) ((next_no hx hg).and ((fail_no hx hg 2).and (hg.and g)) |>.imp fun k ⟨h, h1, h2, h3⟩ ro => ?_)
  rcases hx with rfl | ⟨o, rfl⟩ <;>
  simp -implicitDefEqProofs [Try.f32, h, h1, h2, h3, tk0, Tk.w]
end
theorem good_nil (gl : List (List W)) : Reads 24 [.w .nil] gl (V.bool false) := by
  refine .intro Try.func24 (by kernel_rfl) (.of fun k ro => ?_)
  simp -implicitDefEqProofs [Try.f24]
theorem good_off {gl : List (List W)} {o : Nat} {l : D} {n a b e : Int} (h : gl[o]? = some [.d (.bool false), .d l, .d (.int .i64 n), .d (.int .i64 a), .d (.int .i64 b), .d (.int .i64 e)]) : Reads 24 [.w (.glo o 0)] gl (V.bool false) := by
  refine .intro Try.func24 (by kernel_rfl) (.of fun k ro => ?_)
  simp -implicitDefEqProofs [Try.f24, h]
theorem good_ev {gl : List (List W)} {o : Nat} {p r : List Tk} {ln cl e : Int} (h : gl[o]? = some (cW p r ln cl e)) : Reads 24 [.w (.glo o 0)] gl (V.bool (decide (e = 0))) := by
  refine .intro Try.func24 (by kernel_rfl) (.of fun k ro => ?_)
  simp -implicitDefEqProofs [Try.f24, h, cW]
theorem fault_nil (gl : List (List W)) : Reads 37 [.w .nil] gl (.tup [.agg [.d (.int .i64 0), .d (.int .i64 0)], I 10]) := by
  refine .intro Try.func37 (by kernel_rfl) (.of fun k ro => ?_)
  simp -implicitDefEqProofs [Try.f37]
theorem fault_off {gl : List (List W)} {o : Nat} {l : D} {n a b e : Int} (h : gl[o]? = some [.d (.bool false), .d l, .d (.int .i64 n), .d (.int .i64 a), .d (.int .i64 b), .d (.int .i64 e)]) : Reads 37 [.w (.glo o 0)] gl (.tup [.agg [.d (.int .i64 0), .d (.int .i64 0)], I 10]) := by
  refine .intro Try.func37 (by kernel_rfl) (.of fun k ro => ?_)
  simp -implicitDefEqProofs [Try.f37, h]
theorem fault_ev {gl : List (List W)} {o : Nat} {p r : List Tk} {ln cl e : Int} (h : gl[o]? = some (cW p r ln cl e)) : Reads 37 [.w (.glo o 0)] gl (.tup [.agg [.d (.int .i64 ln), .d (.int .i64 cl)], I e]) := by
  refine .intro Try.func37 (by kernel_rfl) (.of fun k ro => ?_)
  simp -implicitDefEqProofs [Try.f37, h, cW]
theorem New_ev (gl : List (List W)) (l : List Tk) : Does 21 [L (l.map Tk.c)] gl (.c (.w (.glo gl.length 0))) (gl ++ [cW [] l 0 0 0]) := by
  refine .intro Try.func21 (by kernel_rfl) (.of fun k => ?_)
  simp -implicitDefEqProofs [Try.f21, cW]
end Go.Proofs.Ytkklkkppedociaa.Ev
