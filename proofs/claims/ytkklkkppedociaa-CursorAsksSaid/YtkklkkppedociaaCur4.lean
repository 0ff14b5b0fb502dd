/- Layer 4: the statements' frame. -/
import Derived.Test.YtkklkkppedociaaCur3
set_option linter.unusedVariables false
set_option linter.unusedSimpArgs false
set_option maxRecDepth 100000
set_option maxHeartbeats 2000000
namespace Go.Proofs.Ytkklkkppedociaa.Ev
open Go Go.RowKit

theorem eg_tok : Try.prog.eqGuardType Try.prog.depth 39 = false := by kernel_rfl
theorem eg_pos : Try.prog.eqGuardType Try.prog.depth 37 = false := by kernel_rfl
theorem sh_tok : Try.prog.stoodInHeld 39 = false := by kernel_rfl
theorem sh_pos : Try.prog.stoodInHeld 37 = false := by kernel_rfl
theorem ev_pos7 (a b c d : Int) : eqVal Try.prog 7 37 [.int .i64 a, .int .i64 b] [.int .i64 c, .int .i64 d] = some (decide (a = c) && decide (b = d)) := by
  simp [eqVal, sh_pos]
  by_cases h : a = c <;> by_cases h' : b = d <;> simp [h, h']
theorem ev_pos (a b c d : Int) : eqVal Try.prog 8 37 [.int .i64 a, .int .i64 b] [.int .i64 c, .int .i64 d] = some (decide (a = c) && decide (b = d)) := by
  simp [eqVal, sh_pos]
  by_cases h : a = c <;> by_cases h' : b = d <;> simp [h, h']
theorem ev_tok (k : Int) (s : List UInt8) (a b : Int) (k' : Int) (s' : List UInt8) (a' b' : Int) : eqVal Try.prog 8 39 [.int .i64 k, .str s, .int .i64 a, .int .i64 b] [.int .i64 k', .str s', .int .i64 a', .int .i64 b']
    = some (decide (k = k') && (decide (s = s') && (decide (a = a') && decide (b = b')))) := by
  simp [eqVal, sh_tok, sh_pos]
  by_cases h : k = k' <;> by_cases h1 : s = s' <;> by_cases h2 : a = a' <;> by_cases h3 : b = b' <;> simp [h, h1, h2, h3]
attribute [simp high] ev_pos ev_tok
attribute [simp] eg_tok eg_pos

def awL : List (List D) := [[.int .i64 1, .str [97], .int .i64 0, .int .i64 0], [.int .i64 2, .str [49], .int .i64 0, .int .i64 0], [.int .i64 3, .str [59], .int .i64 1, .int .i64 4]]
def aw (n ln cl e : Int) : List W := [.d (.bool true), .d (.sl awL), .d (.int .i64 n), .d (.int .i64 ln), .d (.int .i64 cl), .d (.int .i64 e)]
def awT : List Tk := [⟨1, [97], 0, 0⟩, ⟨2, [49], 0, 0⟩, ⟨3, [59], 1, 4⟩]
def aw0 : Cu := ⟨[], awT, 0, 0, 0⟩
def aw1 : Cu := ⟨[⟨1, [97], 0, 0⟩], [⟨2, [49], 0, 0⟩, ⟨3, [59], 1, 4⟩], 0, 0, 0⟩
def aw2 : Cu := ⟨[⟨1, [97], 0, 0⟩, ⟨2, [49], 0, 0⟩], [⟨3, [59], 1, 4⟩], 0, 0, 0⟩
def aw3 : Cu := ⟨[⟨1, [97], 0, 0⟩, ⟨2, [49], 0, 0⟩], [⟨3, [59], 1, 4⟩], 1, 4, 2⟩
theorem aw_get (gl : List (List W)) (x : List W) : (gl ++ [x])[gl.length]? = some x := by simp
theorem aw_set (gl : List (List W)) (x y : List W) : (gl ++ [x]).set gl.length y = gl ++ [y] := by simp
theorem cawake_ev (gl : List (List W)) : Does 20 [] gl (V.bool true) (gl ++ [aw 2 1 4 2]) := by
  have k0 : aw0.Ok := ⟨by decide, by decide⟩
  have k1 : aw1.Ok := ⟨by decide, by decide⟩
  have k2 : aw2.Ok := ⟨by decide, by decide⟩
  have h1 : Does 21 [.w (.d (.sl [[.int .i64 1, .str [97], .int .i64 0, .int .i64 0], [.int .i64 2, .str [49], .int .i64 0, .int .i64 0], [.int .i64 3, .str [59], .int .i64 1, .int .i64 4]]))] gl (.c (.w (.glo gl.length 0))) (gl ++ [aw 0 0 0 0]) := New_ev gl awT
  have h2 := name_c (aw_get gl aw0.w) k0
  rw [aw_set, show aw0.name = (aw1, [97]) by rfl] at h2
  have h3 := number_c (aw_get gl aw1.w) k1 9
  rw [aw_set, show aw1.number 9 = (aw2, 1) by rfl] at h3
  have h4 := name_c (aw_get gl aw2.w) k2
  rw [aw_set, show aw2.name = (aw3, []) by rfl] at h4
  have h5 := fault_ev (p := aw3.p) (r := aw3.r) (ln := 1) (cl := 4) (e := 2) (aw_get gl aw3.w)
  have h6 := good_c (c := aw3) (aw_get gl aw3.w)
  have e0 : aw0.w = aw 0 0 0 0 := rfl
  have e1 : aw1.w = aw 1 0 0 0 := rfl
  have e2 : aw2.w = aw 2 0 0 0 := rfl
  have e3 : aw3.w = aw 2 1 4 2 := rfl
  rw [e0, e1] at h2
  rw [e1, e2] at h3
  rw [e2, e3] at h4
  rw [e3] at h5 h6
  refine .intro Try.func20 (by kernel_rfl) (h1.and (h2.and (h3.and (h4.and (h5.and h6)))) |>.imp fun k ⟨h1, h2, h3, h4, h5, h6⟩ => ?_)
  simp -implicitDefEqProofs [Try.f20, h1, h2, h3, h4, h5, h6, aw3]
end Go.Proofs.Ytkklkkppedociaa.Ev
