/- Layer 6: the theorem of expressions. -/
import Derived.Test.YtkklkkppedociaaDoorPkLaw6f
import Derived.Test.YtkklkkppedociaaDoorPkChk3
import Derived.Test.YtkklkkppedociaaDoorPkPutB
set_option linter.unusedVariables false
set_option linter.unusedSimpArgs false
set_option maxRecDepth 100000
set_option maxHeartbeats 2000000
namespace Go.Proofs.YtkklkkppedociaaDoor.Ev
open Go Go.RowKit

theorem put_one (e : Tr) : e.put 1 = e.txt := by
  unfold Tr.put brk
  have := (level_rng e.top.op).1
  rw [if_neg (by omega)]
theorem ExprPuts_evL (l : List Tm) (hs : ∀ t ∈ l, t.name.length ≤ 9223372036854775807) (hl : l.length ≤ 9223372036854775807) : Gives 3 [L (l.map Tm.c)] (V.bool true) := by
  by_cases c1 : 100 < l.length
  · have c1' : (100 : Int) < l.length := by omega
    refine .intro Tryd.func3 (by kernel_rfl) (awake06_ev.imp fun k h ro gl => ?_)
    simp -implicitDefEqProofs [Tryd.f3, c1', h]
  have c1' : ¬ (100 : Int) < l.length := by omega
  have h1 := EPut_ev l hs hl
  have h2 := rCheck_ev l hs hl
  by_cases h0 : checkV l = 0
  · obtain ⟨e, e1, e2, e3, e5, e6⟩ := checkV_tree h0
    have hx := txt_len e e3
    have h3 := Parse_ev e.txt (by omega)
    have h4 := rPutE_ev e e1 e3 l 0 1 (e2 ▸ Tr.At.root e) (by omega)
    have h5 := Same_ev l l (by omega) (by omega)
    rw [h0, if_pos rfl, txtV_eq e1 e2] at h1
    rw [h0] at h2
    rw [parsP_txt e e1 e3 e5 e6, ← e2] at h3
    rw [put_one] at h4
    simp only [decide_true] at h5
    generalize e.txt = t at h1 h3 h4
    refine .intro Tryd.func3 (by kernel_rfl) ((awake06_ev.and (h1.and (h2.and (h3.and (h4.and h5))))).imp fun k ⟨h, h1, h2, h3, h4, h5⟩ ro gl => ?_)
    simp [parsV] at h1 h2 h3 h4 h5
    simp -implicitDefEqProofs [Tryd.f3, c1', h, h1, h2, h3, h4, h5]
  · rw [if_neg h0] at h1
    generalize checkV l = v at h0 h1 h2
    refine .intro Tryd.func3 (by kernel_rfl) ((awake06_ev.and (h1.and h2)).imp fun k ⟨h, h1, h2⟩ ro gl => ?_)
    (try simp at h1 h2)
    simp -implicitDefEqProofs [Tryd.f3, c1', h, h1, h2, h0]
theorem len_3 {α : Type} {l : List α} (h : l.length = 3) : ∃ a b c, l = [a, b, c] := by
  match l, h with
  | [a, b, c], _ => exact ⟨a, b, c, rfl⟩
theorem cells_tm : Tryd.prog.cellsOf 35 = 3 := by kernel_rfl
theorem cells_int : Tryd.prog.cellsOf 3 = 1 := by kernel_rfl
theorem cells_str : Tryd.prog.cellsOf 9 = 1 := by kernel_rfl
theorem shape_tm {K : Nat} {x : List D} (h : Shape Tryd.prog (K + 2) 35 x) : ∃ t : Tm, x = t.c ∧ t.name.length ≤ maxLen := by
  simp only [Shape, Tryd.underlying35] at h
  obtain ⟨hl, hf⟩ := h
  rw [cells_tm] at hl
  obtain ⟨a, b, c, rfl⟩ := len_3 hl
  simp [cells_int, cells_str, Shape] at hf
  obtain ⟨⟨k, rfl, _⟩, ⟨n, rfl, _⟩, s, rfl, hs⟩ := hf
  exact ⟨⟨k, n, s⟩, rfl, by simpa using hs⟩
theorem map_all {α : Type} {f : α → List D} {p : List D → Prop} {q : α → Prop} (h : ∀ x, p x → ∃ a, x = f a ∧ q a) : ∀ (xs : List (List D)), (∀ x ∈ xs, p x) → ∃ l : List α, xs = l.map f ∧ ∀ a ∈ l, q a
  | [], _ => ⟨[], rfl, by simp⟩
  | x :: r, hx => by
    obtain ⟨a, rfl, ha⟩ := h x (hx x (by simp))
    obtain ⟨l, rfl, hl⟩ := map_all h r fun y hy => hx y (by simp [hy])
    exact ⟨a :: l, rfl, by simpa using ⟨ha, hl⟩⟩
theorem ExprPuts_ev (c0 : C) (h0 : ArgOf Tryd.prog 9 22 c0) : Gives 3 [c0] (V.bool true) := by
  obtain ⟨xs, rfl, hx, hx'⟩ := arg_slice (K := 8) (by kernel_rfl) h0
  obtain ⟨l, rfl, hl⟩ := map_all (f := Tm.c) (p := Shape Tryd.prog 8 35) (q := fun t => t.name.length ≤ maxLen) (fun x h => shape_tm (K := 6) h) xs hx'
  exact ExprPuts_evL l hl (by simpa using hx)
end Go.Proofs.YtkklkkppedociaaDoor.Ev
