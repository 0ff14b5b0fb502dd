/- Layer 6: Parse, the document's and the program's. -/
import Derived.Test.YtckonoejmjblfaaGreatDoorPkExpD
import Derived.Test.YtckonoejmjblfaaGreatDoorPkRscB
import Derived.Test.YtckonoejmjblfaaGreatDoorPkChk
set_option linter.unusedVariables false
set_option linter.unusedSimpArgs false
set_option maxRecDepth 100000
set_option maxHeartbeats 2000000
namespace Go.Proofs.YtckonoejmjblfaaGreatDoor.Ev
open Go Go.RowKit

theorem toks_text (B : Nat) : ∀ (f : Nat) (acc : List Tk) (w : Wk), (∀ t ∈ acc, t.text.length ≤ B) → w.s.length ≤ B → ∀ t ∈ (toks f acc w).1, t.text.length ≤ B
  | 0, acc, w, h, _ => h
  | f + 1, acc, w, h, hw => by
    unfold toks
    split
    · exact h
    · split
      · refine toks_text B f _ _ ?_ ?_
        · intro t ht
          simp only [List.mem_append, List.mem_singleton] at ht
          rcases ht with ht | rfl
          · exact h t ht
          · simp only [Wk.tok, List.length_take]; omega
        · refine Nat.le_trans (rest_len _ _) ?_
          simp only [Wk.step, List.length_drop]
          omega
      · exact h
def tkX (s : List UInt8) : List Tk × Wk × Int := toks (s.length + 1) [] ((⟨s, 1, 1⟩ : Wk).rest (s.length + 1))
/-- A text's tokens, and why it has none. -/
def tkL (s : List UInt8) : List Tk := if 65536 < s.length then [] else if (tkX s).2.2 = 0 then (tkX s).1 ++ [⟨0, [], (tkX s).2.1.ln, (tkX s).2.1.cl⟩] else []
def tkE (s : List UInt8) : Int := if 65536 < s.length then 5 else (tkX s).2.2
theorem tokV_eq (s : List UInt8) : ∃ p q : Int, tokV s = .tup [L ((tkL s).map Tk.c), .agg [.d (.int .i64 p), .d (.int .i64 q)], I (tkE s)] := by
  unfold tokV tkL tkE
  rw [show toks (s.length + 1) [] ((⟨s, 1, 1⟩ : Wk).rest (s.length + 1)) = tkX s from rfl]
  by_cases h : 65536 < s.length
  · simp only [if_pos h]; exact ⟨_, _, rfl⟩
  · simp only [if_neg h]
    by_cases h2 : (tkX s).2.2 = 0
    · simp only [if_pos h2, h2]; exact ⟨_, _, rfl⟩
    · simp only [if_neg h2]; exact ⟨_, _, rfl⟩
theorem tkL_ok (s : List UInt8) : (⟨[], tkL s, 0, 0, 0⟩ : Cu).Ok ∧ (tkL s).length ≤ 4001 := by
  have hl : (tkL s).length ≤ 4001 := by
    unfold tkL
    split
    · simp
    · split
      · have := toks_len (s.length + 1) [] ((⟨s, 1, 1⟩ : Wk).rest (s.length + 1)) (by simp)
        simp only [tkX, List.length_append, List.length_singleton]
        omega
      · simp
  refine ⟨⟨by simp only [List.length_nil]; omega, fun t ht => ?_⟩, hl⟩
  simp only [tkL] at ht
  split at ht
  · simp at ht
  · split at ht
    · rw [List.mem_append] at ht
      rcases ht with ht | ht
      · have := toks_text s.length (s.length + 1) [] ((⟨s, 1, 1⟩ : Wk).rest (s.length + 1)) (by simp) (rest_len _ _) t ht
        omega
      · simp only [List.mem_singleton] at ht
        subst ht
        simp
    · simp at ht
/-- Which expression a text is. -/
def parsP (s : List UInt8) : List Tm × Int :=
  if tkE s = 0 then
    let x := readP ⟨[], tkL s, 0, 0, 0⟩
    let d := x.1.want 0 []
    if d.e = 0 then (x.2, 0) else ([], d.e)
  else ([], tkE s)
def parsV (x : List Tm × Int) : V := .tup [L (x.1.map Tm.c), I x.2]
end Go.Proofs.YtckonoejmjblfaaGreatDoor.Ev

/- Layer 6: the examples. -/
set_option linter.unusedVariables false
set_option linter.unusedSimpArgs false
set_option maxRecDepth 1000000
set_option maxHeartbeats 2000000
namespace Go.Proofs.YtckonoejmjblfaaGreatDoor.Ev
open Go Go.RowKit

def ax1 : List Tm := [⟨5, 0, []⟩, ⟨5, 0, []⟩, ⟨2, 0, [120]⟩, ⟨1, 1, []⟩, ⟨1, 2, []⟩]
def ax2 : List Tm := [⟨19, 0, []⟩, ⟨12, 0, []⟩, ⟨15, 0, []⟩, ⟨2, 0, [120]⟩, ⟨1, 2, []⟩, ⟨20, 0, []⟩, ⟨2, 0, [97]⟩, ⟨11, 0, [98]⟩]
abbrev as1 : List UInt8 := [40, 40, 120, 41, 41, 32, 45, 32, 49, 32, 45, 32, 50]
abbrev at1 : List UInt8 := [120, 32, 45, 32, 49, 32, 45, 32, 50]
abbrev as2 : List UInt8 := [110, 111, 116, 32, 120, 32, 60, 32, 50, 32, 97, 110, 100, 32, 40, 97, 32, 111, 114, 32, 105, 110, 40, 98, 41, 41]
abbrev as3 : List UInt8 := [49, 32, 60, 32, 50, 32, 60, 32, 51]
theorem ap1 : parsP as1 = (ax1, 0) := by kernel_rfl
theorem ap2 : parsP as2 = (ax2, 0) := by kernel_rfl
theorem ap3 : parsP as3 = ([], 2) := by kernel_rfl
theorem dg1 : num 1 = [49] := by unfold num; rw [if_neg (by decide), dg_lt (by decide)]; rfl
theorem dg2 : num 2 = [50] := by unfold num; rw [if_neg (by decide), dg_lt (by decide)]; rfl
theorem ac1 : checkV ax1 = 0 := by kernel_rfl
theorem ac2 : checkV ax2 = 0 := by kernel_rfl
def at_1 : Tr := .two ⟨5, 0, []⟩ (.two ⟨5, 0, []⟩ (.leaf ⟨2, 0, [120]⟩) (.leaf ⟨1, 1, []⟩)) (.leaf ⟨1, 2, []⟩)
def at_2 : Tr := .two ⟨19, 0, []⟩ (.one ⟨12, 0, []⟩ (.two ⟨15, 0, []⟩ (.leaf ⟨2, 0, [120]⟩) (.leaf ⟨1, 2, []⟩))) (.two ⟨20, 0, []⟩ (.leaf ⟨2, 0, [97]⟩) (.leaf ⟨11, 0, [98]⟩))
theorem av1 : txtV ax1 = at1 := by
  rw [txtV_eq (e := at_1) (by simp [at_1, Tr.wf, arity]) (by rfl)]
  simp [at_1, Tr.txt, brk, Tr.top, levelI, leftI, signB, dg1, dg2]
theorem av2 : txtV ax2 = as2 := by
  rw [txtV_eq (e := at_2) (by simp [at_2, Tr.wf, arity]) (by rfl)]
  simp [at_2, Tr.txt, brk, Tr.top, levelI, leftI, signB, dg1, dg2]
end Go.Proofs.YtckonoejmjblfaaGreatDoor.Ev
