/- Layer 4: nobody's cursor. -/
import Derived.Test.YtkklkkppedociaaCur4
set_option linter.unusedVariables false
set_option linter.unusedSimpArgs false
set_option maxRecDepth 100000
set_option maxHeartbeats 2000000
namespace Go.Proofs.Ytkklkkppedociaa.Ev
open Go Go.RowKit

structure Ask where
  op : Int
  kd : Int
  tx : List UInt8
  n : Int
def Ask.c (a : Ask) : List D := [.int .i64 a.op, .int .i64 a.kd, .str a.tx, .int .i64 a.n]
def Ask.w (a : Ask) : C := .agg [.d (.int .i64 a.op), .d (.int .i64 a.kd), .d (.str a.tx), .d (.int .i64 a.n)]
def dead : List W := [.d (.bool false), .d (.sl []), .d (.int .i64 0), .d (.int .i64 0), .d (.int .i64 0), .d (.int .i64 0)]
def nbG : Nat → List (List W)
  | 2 => [dead]
  | _ => []
def nbS (a : Ask) (k : Nat) : St := st 76 [(1, .c (.w (.box 1 0))), (3, V.int .i64 k)] [(1, [.d (.int .i64 a.op), .d (.int .i64 a.kd), .d (.str a.tx), .d (.int .i64 a.n)])] [] (nbG k) false
/-- All that is asked of nobody's cursor. -/
def Nobody (k : Nat) (x : W) (gl : List (List W)) (a : Ask) : Prop :=
  (∀ ro, ev k 36 [.w x, I a.n] ro gl = some (.tup [], gl)) ∧ (∀ ro, ev k 28 [.w x, I a.kd, T a.tx] ro gl = some (.tup [], gl)) ∧
  (∀ ro, ev k 37 [.w x] ro gl = some (.tup [.agg [.d (.int .i64 0), .d (.int .i64 0)], I 10], gl)) ∧ (∀ ro, ev k 22 [.w x] ro gl = some (.c tk0.w, gl)) ∧
  (∀ ro, ev k 33 [.w x, I 0, T []] ro gl = some (V.bool false, gl)) ∧ (∀ ro, ev k 26 [.w x, I a.kd, T a.tx] ro gl = some (V.bool false, gl)) ∧
  (∀ ro, ev k 26 [.w x, I 0, T []] ro gl = some (V.bool false, gl)) ∧ (∀ ro, ev k 30 [.w x] ro gl = some (V.str [], gl)) ∧
  (∀ ro, ev k 32 [.w x, I a.n] ro gl = some (.c (I 0), gl)) ∧ (∀ ro, ev k 24 [.w x] ro gl = some (V.bool false, gl))
theorem nobody {x : W} {gl : List (List W)} (a : Ask) (hx : Obj x) (hg : Reads 24 [.w x] gl (V.bool false))
    (hf : Reads 37 [.w x] gl (.tup [.agg [.d (.int .i64 0), .d (.int .i64 0)], I 10])) : Evt fun k => Nobody k x gl a :=
  (fail_no hx hg a.n).and ((want_no hx hg a.kd a.tx).and (hf.and ((next_no hx hg).and ((is_no hx hg 0 []).and ((take_no hx hg a.kd a.tx).and ((take_no hx hg 0 []).and ((name_no hx hg).and ((number_no hx hg a.n).and hg))))))))

theorem nb0 (a : Ask) (k N : Nat) (h : Nobody k .nil [] a) :
    (evC Try.prog cf 7 (ev k) N (bodyOf Try.f7 0) (nbS a 0)).map (hv [1, 3]) = some (.normal, nbS a 1) := by
  obtain ⟨h1, h2, h3, h4, h5, h6, h7, h8, h9, h10⟩ := h
  simp only [tk0, Tk.w] at h4
  simp -implicitDefEqProofs [nbS, nbG, bodyOf, loopsOf, hv, Try.f7, h1, h2, h3, h4, h5, h6, h7, h8, h9, h10]
theorem nb1 (a : Ask) (k N : Nat) (h : Nobody k (.glo 0 0) [dead] a) :
    (evC Try.prog cf 7 (ev k) N (bodyOf Try.f7 0) (nbS a 1)).map (hv [1, 3]) = some (.normal, nbS a 2) := by
  obtain ⟨h1, h2, h3, h4, h5, h6, h7, h8, h9, h10⟩ := h
  simp only [tk0, Tk.w] at h4
  simp only [dead] at h1 h2 h3 h4 h5 h6 h7 h8 h9 h10
  simp -implicitDefEqProofs [nbS, nbG, bodyOf, loopsOf, hv, Try.f7, h1, h2, h3, h4, h5, h6, h7, h8, h9, h10, dead]
theorem nb2 (a : Ask) (k N : Nat) :
    (evC Try.prog cf 7 (ev k) N (bodyOf Try.f7 0) (nbS a 2)).map (hv [1, 3]) = some (.exit 0, nbS a 2) := by
  simp -implicitDefEqProofs [nbS, nbG, bodyOf, loopsOf, hv, Try.f7]
theorem nb_ev (a : Ask) : Does 7 [a.w] [] (V.bool true) [dead, aw 2 1 4 2] := by
  have n0 := nobody a (.inl rfl) (good_nil []) (fault_nil [])
  have hd : ([dead] : List (List W))[0]? = some dead := rfl
  have n1 := nobody a (Obj.glo 0) (good_off hd) (fault_off hd)
  refine .intro Try.func7 (by kernel_rfl) (n0.and (n1.and ((cawake_ev [dead]).and (Evt.ge 3))) |>.imp fun k ⟨h0, h1, h2, hk⟩ => ?_)
  have tail : ∀ S : St, S.hav [1, 3] = nbS a 0 → loopC Try.prog cf 7 (ev k) k (bodyOf Try.f7 0) S = some (.exit 0, nbS a 2) := by
    intro S hS
    refine loop_by (nbS a) (fun k => k ≤ 2) (fun k => 2 - k) (fun _ => (.exit 0, nbS a 2)) ?_ k 0 S (by omega) (by omega) hS
    intro i hi
    match i, hi with
    | 0, _ => exact .inl ⟨1, by omega, by omega, nb0 a k k h0, rfl⟩
    | 1, _ => exact .inl ⟨2, by omega, by omega, nb1 a k k h1, rfl⟩
    | 2, _ => exact .inr (.inl ⟨0, _, nb2 a k k, rfl⟩)
  simp -implicitDefEqProofs [Try.f7, Ask.w]
  refine bind_go (tail _ ?_) ?_
  · simp [nbS, nbG]
  · simp only [List.singleton_append] at h2
    simp [nbS, nbG, h2]

theorem len4 {α : Type} {l : List α} (h : l.length = 4) : ∃ a b c d, l = [a, b, c, d] := by
  match l, h with
  | [a, b, c, d], _ => exact ⟨a, b, c, d, rfl⟩
theorem cl_tok : Try.prog.cellsOf 39 = 4 := by kernel_rfl
theorem cl_ask : Try.prog.cellsOf 45 = 4 := by kernel_rfl
theorem cl_pos : Try.prog.cellsOf 37 = 2 := by kernel_rfl
theorem cl_int : Try.prog.cellsOf 3 = 1 := by kernel_rfl
theorem cl_str : Try.prog.cellsOf 9 = 1 := by kernel_rfl
theorem shape_tok {K : Nat} {x : List D} (h : Shape Try.prog (K + 3) 39 x) : ∃ t : Tk, x = t.c ∧ t.text.length ≤ maxLen := by
  simp only [Shape, Try.underlying39] at h
  obtain ⟨hl, hf⟩ := h
  rw [cl_tok] at hl
  obtain ⟨a, b, c, d, rfl⟩ := len4 hl
  simp [cl_pos, cl_int, cl_str, Shape] at hf
  obtain ⟨⟨k, rfl, _⟩, ⟨s, rfl, hs⟩, ⟨ln, rfl, _⟩, cl, rfl, _⟩ := hf
  exact ⟨⟨k, s, ln, cl⟩, rfl, by simpa using hs⟩
theorem shape_ask {K : Nat} {x : List D} (h : Shape Try.prog (K + 2) 45 x) : ∃ t : Ask, x = t.c := by
  simp only [Shape, Try.underlying45] at h
  obtain ⟨hl, hf⟩ := h
  rw [cl_ask] at hl
  obtain ⟨a, b, c, d, rfl⟩ := len4 hl
  simp [cl_int, cl_str, Shape] at hf
  obtain ⟨⟨k, rfl, _⟩, ⟨kd, rfl, _⟩, ⟨s, rfl, hs⟩, n, rfl, _⟩ := hf
  exact ⟨⟨k, kd, s, n⟩, rfl⟩
theorem map_of {α : Type} {f : α → List D} {p : List D → Prop} (h : ∀ x, p x → ∃ a, x = f a) : ∀ (xs : List (List D)), (∀ x ∈ xs, p x) → ∃ l : List α, xs = l.map f
  | [], _ => ⟨[], rfl⟩
  | x :: r, hx => by
    obtain ⟨a, rfl⟩ := h x (hx x (by simp))
    obtain ⟨l, rfl⟩ := map_of h r fun y hy => hx y (by simp [hy])
    exact ⟨a :: l, rfl⟩
theorem CursorNobody_ev (c : C) (h : ArgOf Try.prog 9 45 c) : Does 7 [c] [] (V.bool true) [dead, aw 2 1 4 2] := by
  obtain ⟨ds, h1, h2⟩ := h
  obtain ⟨a, rfl⟩ := shape_ask (K := 7) h1
  rw [isAgg_of Try.underlying45] at h2
  rcases h2 with ⟨_, rfl⟩ | ⟨h, _⟩
  · exact nb_ev a
  · cases h
end Go.Proofs.Ytkklkkppedociaa.Ev
