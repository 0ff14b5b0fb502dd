/- Layer 6: which expression is next in any tokens. -/
import Derived.Test.YtkklkkppedociaaGreatDoorPkLaw
set_option linter.unusedVariables false
set_option linter.unusedSimpArgs false
set_option maxRecDepth 100000
set_option maxHeartbeats 4000000
namespace Go.Proofs.YtkklkkppedociaaGreatDoor.Ev
open Go Go.RowKit

theorem eg_tok : Tryz.prog.eqGuardType Tryz.prog.depth 33 = false := by kernel_rfl
theorem eg_pos : Tryz.prog.eqGuardType Tryz.prog.depth 31 = false := by kernel_rfl
theorem sh_tok : Tryz.prog.stoodInHeld 33 = false := by kernel_rfl
theorem sh_pos : Tryz.prog.stoodInHeld 31 = false := by kernel_rfl
theorem ev_pos7 (a b c d : Int) : eqVal Tryz.prog 7 31 [.int .i64 a, .int .i64 b] [.int .i64 c, .int .i64 d] = some (decide (a = c) && decide (b = d)) := by
  simp [eqVal, sh_pos]
  by_cases h : a = c <;> by_cases h' : b = d <;> simp [h, h']
theorem ev_pos (a b c d : Int) : eqVal Tryz.prog 8 31 [.int .i64 a, .int .i64 b] [.int .i64 c, .int .i64 d] = some (decide (a = c) && decide (b = d)) := by
  simp [eqVal, sh_pos]
  by_cases h : a = c <;> by_cases h' : b = d <;> simp [h, h']
theorem ev_tok (k : Int) (s : List UInt8) (a b : Int) (k' : Int) (s' : List UInt8) (a' b' : Int) : eqVal Tryz.prog 8 33 [.int .i64 k, .str s, .int .i64 a, .int .i64 b] [.int .i64 k', .str s', .int .i64 a', .int .i64 b']
    = some (decide (k = k') && (decide (s = s') && (decide (a = a') && decide (b = b')))) := by
  simp [eqVal, sh_tok, sh_pos]
  by_cases h : k = k' <;> by_cases h1 : s = s' <;> by_cases h2 : a = a' <;> by_cases h3 : b = b' <;> simp [h, h1, h2, h3]
attribute [simp high] ev_pos ev_tok
attribute [simp] eg_tok eg_pos
def erS (l : List Tk) (i : Nat) (gl : List (List W)) (ro : Nat) : St := st 68 [(0, .c (L (l.map Tk.c))), (3, V.int .i64 i)] [] [] gl ro
theorem er_loop (l : List Tk) (hl : l.length ≤ 150) : Evt fun k => ∀ gl ro S, S.hav [0, 3] = erS l 0 gl ro →
    loopA (evC Tryz.prog cf 4 (ev k) k (bodyOf Tryz.f4 0)) [0, 3] [2] k S = some (if (l.any fun t => decide (100 < t.text.length)) = true then (.ret, st 68 [(2, V.bool true)] [] [] gl ro) else (.exit 0, erS l l.length gl ro)) := by
  refine (awake06_ev.and (Evt.ge (l.length + 1))).imp fun k ⟨h, hk⟩ gl ro S hS => ?_
  refine loop_by (keep := [0, 3]) (res := [2]) (fun i : Nat => erS l i gl ro) (fun i => i ≤ l.length) (fun i => l.length - i) (fun i => if ((l.drop i).any fun t => decide (100 < t.text.length)) = true then (.ret, st 68 [(2, V.bool true)] [] [] gl ro) else (.exit 0, erS l l.length gl ro)) ?_ k 0 S (Nat.zero_le _) (by omega) hS
  intro i hi
  by_cases hi' : i = l.length
  · subst hi'
    refine .inr (.inl ⟨0, erS l l.length gl ro, ?_, ?_⟩)
    · simp -implicitDefEqProofs [erS, bodyOf, loopsOf, hv, Tryz.f4]
    · rw [List.drop_of_length_le (Nat.le_refl _)]; rfl
  · have h1 : i < l.length := by omega
    have h1' : (i : Int) < l.length := by omega
    have da : l.drop i = l[i] :: l.drop (i + 1) := List.drop_eq_getElem_cons h1
    have ca : l[i]? = some l[i] := List.getElem?_eq_getElem h1
    generalize l[i] = x at da ca
    have w : IntKind.i64.wrap ((i : Int) + 1) = (i : Int) + 1 := i64w _ (by omega)
    have hx : l[i] = x := (List.getElem?_eq_some_iff.1 ca).2
    by_cases hp : 100 < x.text.length
    · have hp' : (100 : Int) < x.text.length := by omega
      refine .inr (.inr ⟨st 68 [(2, V.bool true)] [] [] gl ro, ?_, ?_⟩)
      · simp -implicitDefEqProofs [erS, bodyOf, loopsOf, hv, Tryz.f4, h1, h1', hx, Tk.c, w, hp', h]
      · rw [da, List.any_cons, decide_eq_true hp, Bool.true_or, if_pos rfl]
    · have hp' : ¬ (100 : Int) < x.text.length := by omega
      refine .inl ⟨i + 1, by omega, by omega, ?_, ?_⟩
      · simp -implicitDefEqProofs [erS, bodyOf, loopsOf, hv, Tryz.f4, h1, h1', hx, Tk.c, w, hp']
      · rw [da, List.any_cons, decide_eq_false hp, Bool.false_or]
theorem ExprReads_evL (l : List Tk) (hl : l.length ≤ 9223372036854775807) : Gives 4 [L (l.map Tk.c)] (V.bool true) := by
  by_cases c1 : 150 < l.length
  · have c1' : (150 : Int) < l.length := by omega
    refine .intro Tryz.func4 (by kernel_rfl) (awake06_ev.imp fun k h ro gl => ?_)
    simp -implicitDefEqProofs [Tryz.f4, c1', h]
  have c1' : ¬ (150 : Int) < l.length := by omega
  have lp := er_loop l (by omega)
  by_cases c3 : (l.any fun t => decide (100 < t.text.length)) = true
  · simp only [c3, if_true] at lp
    refine .intro Tryz.func4 (by kernel_rfl) (lp.imp fun k h ro gl => ?_)
    have tail : ∀ S : St, S.hav [0, 3] = erS l 0 gl gl.length → loopC Tryz.prog cf 4 (ev k) k (bodyOf Tryz.f4 0) S = _ := fun S hS => h gl gl.length S hS
    simp -implicitDefEqProofs [Tryz.f4, c1']
    refine bind_go (tail _ ?_) ?_
    · simp [erS]
    · simp
  · simp only [show (l.any fun t => decide (100 < t.text.length)) = false by simpa using c3, Bool.false_eq_true, if_false] at lp
    have k1 : (⟨[], l, 0, 0, 0⟩ : Cu).Ok := ⟨by simp only [List.length_nil]; omega, fun t ht => by
      simp only [List.any_eq_true, decide_eq_true_eq, not_exists, not_and] at c3
      have := c3 t ht
      omega⟩
    have hn := New_ev l
    have hr := Read_ev k1 (by simp only; omega)
    have hq := rRead_ev k1 (by simp only; omega)
    have hlen := readP_len ⟨[], l, 0, 0, 0⟩
    have kx := readP_ok k1
    generalize hc : (⟨[], l, 0, 0, 0⟩ : Cu) = c0 at hr hq hlen kx
    have ec : c0.w = cW [] l 0 0 0 := by rw [← hc]; rfl
    have er : c0.ref = cR [] l 0 0 0 := by rw [← hc]; rfl
    rw [← ec] at hn
    rw [er] at hq
    generalize readP c0 = x at hr hq hlen kx
    obtain ⟨d, m⟩ := x
    simp only at hr hlen kx
    have hs := Same_ev m m (by omega) (by omega)
    have hf := fault_ev (p := d.p) (r := d.r) (ln := d.ln) (cl := d.cl) (e := d.e)
    rw [show cW d.p d.r d.ln d.cl d.e = d.w from rfl] at hf
    have hx := next_c kx
    refine .intro Tryz.func4 (by kernel_rfl) ((lp.and (hn.and (hr.and (hq.and (hs.and (hf.and (hx.and ((rNext_c (c := d)).and awake06_ev)))))))).imp fun k ⟨h, h1, h2, h3, h4, h5, h6, h7, h8⟩ ro gl => ?_)
    have tail : ∀ S : St, S.hav [0, 3] = erS l 0 gl gl.length → loopC Tryz.prog cf 4 (ev k) k (bodyOf Tryz.f4 0) S = _ := fun S hS => h gl gl.length S hS
    have h2 := fun ro hro => h2 (gl ++ [c0.w]) gl.length ro (get_last _ _) hro
    have h5 := fun ro => h5 (gl ++ [d.w]) gl.length ro (get_last _ _)
    have h6 := fun ro => h6 (gl ++ [d.w]) gl.length ro (get_last _ _)
    simp only [set_last] at h2
    generalize c0.w = w0 at h1 h2
    generalize d.w = w1 at h2 h5 h6
    generalize d.next = nt at h6 h7
    simp [cR, show was [] = tk0 from rfl, tk0, resR, Cu.ref, Tk.w] at h1 h2 h3 h4 h5 h6 h7 h8
    simp -implicitDefEqProofs [Tryz.f4, c1']
    refine bind_go (tail _ ?_) ?_
    · simp [erS]
    · simp -implicitDefEqProofs [erS, h1, h2, h3, h4, h5, h6, h7, h8]
end Go.Proofs.YtkklkkppedociaaGreatDoor.Ev

/- Layer 6: any tokens, as the model hands them in. -/
set_option linter.unusedVariables false
set_option linter.unusedSimpArgs false
set_option maxRecDepth 100000
namespace Go.Proofs.YtkklkkppedociaaGreatDoor.Ev
open Go Go.RowKit

theorem len4 {α : Type} {l : List α} (h : l.length = 4) : ∃ a b c d, l = [a, b, c, d] := by
  match l, h with
  | [a, b, c, d], _ => exact ⟨a, b, c, d, rfl⟩
theorem cl_tok : Tryz.prog.cellsOf 33 = 4 := by kernel_rfl
theorem cl_pos : Tryz.prog.cellsOf 31 = 2 := by kernel_rfl
theorem cl_int : Tryz.prog.cellsOf 3 = 1 := by kernel_rfl
theorem cl_str : Tryz.prog.cellsOf 9 = 1 := by kernel_rfl
theorem shape_tok {K : Nat} {x : List D} (h : Shape Tryz.prog (K + 3) 33 x) : ∃ t : Tk, x = t.c ∧ t.text.length ≤ maxLen := by
  simp only [Shape, Tryz.underlying33] at h
  obtain ⟨hl, hf⟩ := h
  rw [cl_tok] at hl
  obtain ⟨a, b, c, d, rfl⟩ := len4 hl
  simp [cl_pos, cl_int, cl_str, Shape] at hf
  obtain ⟨⟨k, rfl, _⟩, ⟨s, rfl, hs⟩, ⟨ln, rfl, _⟩, cl, rfl, _⟩ := hf
  exact ⟨⟨k, s, ln, cl⟩, rfl, by simpa using hs⟩
theorem map_of {α : Type} {f : α → List D} {p : List D → Prop} (h : ∀ x, p x → ∃ a, x = f a) : ∀ (xs : List (List D)), (∀ x ∈ xs, p x) → ∃ l : List α, xs = l.map f
  | [], _ => ⟨[], rfl⟩
  | x :: r, hx => by
    obtain ⟨a, rfl⟩ := h x (hx x (by simp))
    obtain ⟨l, rfl⟩ := map_of h r fun y hy => hx y (by simp [hy])
    exact ⟨a :: l, rfl⟩
theorem ExprReads_ev (c0 : C) (h0 : ArgOf Tryz.prog 9 29 c0) : Gives 4 [c0] (V.bool true) := by
  obtain ⟨xs, rfl, hx, hx'⟩ := arg_slice (K := 8) (by kernel_rfl) h0
  obtain ⟨l, rfl⟩ := map_of (f := Tk.c) (p := Shape Tryz.prog 8 33) (fun x h => by obtain ⟨t, ht, _⟩ := shape_tok (K := 5) h; exact ⟨t, ht⟩) xs hx'
  exact ExprReads_evL l (by simpa using hx)
end Go.Proofs.YtkklkkppedociaaGreatDoor.Ev
