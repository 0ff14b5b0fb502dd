/- Layer 8: which acts are next in any tokens. -/
import Derived.Test.YtckonoejmjblfaaGreatPkLaw8r
import Derived.Test.YtckonoejmjblfaaGreatPkLawQ
import Derived.Test.YtckonoejmjblfaaGreatPkSam
set_option linter.unusedVariables false
set_option linter.unusedSimpArgs false
set_option maxRecDepth 100000
set_option maxHeartbeats 4000000
namespace Go.Proofs.YtckonoejmjblfaaGreat.Ev
open Go Go.RowKit

theorem eg_tok : Tryz.prog.eqGuardType Tryz.prog.depth 27 = false := by kernel_rfl
theorem eg_pos : Tryz.prog.eqGuardType Tryz.prog.depth 25 = false := by kernel_rfl
theorem sh_tok : Tryz.prog.stoodInHeld 27 = false := by kernel_rfl
theorem sh_pos : Tryz.prog.stoodInHeld 25 = false := by kernel_rfl
theorem ev_pos7 (a b c d : Int) : eqVal Tryz.prog 7 25 [.int .i64 a, .int .i64 b] [.int .i64 c, .int .i64 d] = some (decide (a = c) && decide (b = d)) := by
  simp [eqVal, sh_pos]
  by_cases h : a = c <;> by_cases h' : b = d <;> simp [h, h']
theorem ev_pos (a b c d : Int) : eqVal Tryz.prog 8 25 [.int .i64 a, .int .i64 b] [.int .i64 c, .int .i64 d] = some (decide (a = c) && decide (b = d)) := by
  simp [eqVal, sh_pos]
  by_cases h : a = c <;> by_cases h' : b = d <;> simp [h, h']
theorem ev_tok (k : Int) (s : List UInt8) (a b : Int) (k' : Int) (s' : List UInt8) (a' b' : Int) : eqVal Tryz.prog 8 27 [.int .i64 k, .str s, .int .i64 a, .int .i64 b] [.int .i64 k', .str s', .int .i64 a', .int .i64 b']
    = some (decide (k = k') && (decide (s = s') && (decide (a = a') && decide (b = b')))) := by
  simp [eqVal, sh_tok, sh_pos]
  by_cases h : k = k' <;> by_cases h1 : s = s' <;> by_cases h2 : a = a' <;> by_cases h3 : b = b' <;> simp [h, h1, h2, h3]
attribute [simp high] ev_pos ev_tok
attribute [simp] eg_tok eg_pos
def arS (l : List Tk) (i : Nat) (gl : List (List W)) (ro : Nat) : St := st 68 [(0, .c (L (l.map Tk.c))), (3, V.int .i64 i)] [] [] gl ro
theorem ar_loop (l : List Tk) (hl : l.length ≤ 300) : Evt fun k => ∀ gl ro S, S.hav [0, 3] = arS l 0 gl ro →
    loopA (evC Tryz.prog cf 3 (ev k) k (bodyOf Tryz.f3 0)) [0, 3] [2] k S = some (if (l.any fun t => decide (100 < t.text.length)) = true then (.ret, st 68 [(2, V.bool true)] [] [] gl ro) else (.exit 0, arS l l.length gl ro)) := by
  refine (awake08_ev.and (Evt.ge (l.length + 1))).imp fun k ⟨h, hk⟩ gl ro S hS => ?_
  refine loop_by (keep := [0, 3]) (res := [2]) (fun i : Nat => arS l i gl ro) (fun i => i ≤ l.length) (fun i => l.length - i) (fun i => if ((l.drop i).any fun t => decide (100 < t.text.length)) = true then (.ret, st 68 [(2, V.bool true)] [] [] gl ro) else (.exit 0, arS l l.length gl ro)) ?_ k 0 S (Nat.zero_le _) (by omega) hS
  intro i hi
  by_cases hi' : i = l.length
  · subst hi'
    refine .inr (.inl ⟨0, arS l l.length gl ro, ?_, ?_⟩)
    · simp -implicitDefEqProofs [arS, bodyOf, loopsOf, hv, Tryz.f3]
    · rw [List.drop_of_length_le (Nat.le_refl _)]; rfl
  · have h1 : i < l.length := by omega
    have h1' : (i : Int) < l.length := by omega
    have da : l.drop i = l[i] :: l.drop (i + 1) := List.drop_eq_getElem_cons h1
    have ca : l[i]? = some l[i] := List.getElem?_eq_getElem h1
    generalize l[i] = x at da ca
    have w : IntKind.i64.wrap ((i : Int) + 1) = (i : Int) + 1 := i64w _ (by omega)
    have hx : l[i] = x := (List.getElem?_eq_some_iff.1 ca).2
    by_cases hp : 100 < x.text.length
    · have hp' : (100 : Int) < x.text.length := by omega
      refine .inr (.inr ⟨st 68 [(2, V.bool true)] [] [] gl ro, ?_, ?_⟩)
      · simp -implicitDefEqProofs [arS, bodyOf, loopsOf, hv, Tryz.f3, h1, h1', hx, Tk.c, w, hp', h]
      · rw [da, List.any_cons, decide_eq_true hp, Bool.true_or, if_pos rfl]
    · have hp' : ¬ (100 : Int) < x.text.length := by omega
      refine .inl ⟨i + 1, by omega, by omega, ?_, ?_⟩
      · simp -implicitDefEqProofs [arS, bodyOf, loopsOf, hv, Tryz.f3, h1, h1', hx, Tk.c, w, hp']
      · rw [da, List.any_cons, decide_eq_false hp, Bool.false_or]
/-- What is read has few acts, and few terms. -/
theorem oneP_sm (c : Cu) : (oneP c).2.expr.length ≤ 40 := by
  unfold oneP
  split
  · simp
  · exact readP_len _
theorem actsP_sm : ∀ (f : Nat) (c : Cu) (acc : List Ac), (∀ a ∈ acc, a.expr.length ≤ 40) → (∀ a ∈ (actsP f c acc).2, a.expr.length ≤ 40) ∧ (actsP f c acc).2.length ≤ acc.length + f
  | 0, c, acc, h => ⟨h, Nat.le_refl _⟩
  | f + 1, c, acc, h => by
    unfold actsP
    split
    · obtain ⟨h1, h2⟩ := actsP_sm f (oneP (if acc.length = 8 then c.on.fail 8 else c.on)).1 (acc ++ [(oneP (if acc.length = 8 then c.on.fail 8 else c.on)).2]) (fun a ha => by
        rcases List.mem_append.1 ha with ha | ha
        · exact h a ha
        · simp only [List.mem_singleton] at ha
          subst ha
          exact oneP_sm _)
      refine ⟨h1, Nat.le_trans h2 ?_⟩
      simp
      omega
    · exact ⟨h, Nat.le_add_right _ _⟩
theorem readA_sm (c : Cu) : (∀ a ∈ (readA c).2, a.expr.length ≤ 40) ∧ (readA c).2.length ≤ c.r.length + 2 := by
  obtain ⟨h1, h2⟩ := actsP_sm (c.r.length + 1) (oneP c).1 [(oneP c).2] (fun a ha => by
    simp only [List.mem_singleton] at ha
    subst ha
    exact oneP_sm _)
  unfold readA
  simp only
  split
  · exact ⟨h1, by simp at h2; omega⟩
  · exact ⟨by simp, by simp⟩
theorem ActReads_evL (l : List Tk) (hl : l.length ≤ 9223372036854775807) : Gives 3 [L (l.map Tk.c)] (V.bool true) := by
  by_cases c1 : 300 < l.length
  · have c1' : (300 : Int) < l.length := by omega
    refine .intro Tryz.func3 (by kernel_rfl) (awake08_ev.imp fun k h ro gl => ?_)
    simp -implicitDefEqProofs [Tryz.f3, c1', h]
  have c1' : ¬ (300 : Int) < l.length := by omega
  have lp := ar_loop l (by omega)
  by_cases c3 : (l.any fun t => decide (100 < t.text.length)) = true
  · simp only [c3, if_true] at lp
    refine .intro Tryz.func3 (by kernel_rfl) (lp.imp fun k h ro gl => ?_)
    have tail : ∀ S : St, S.hav [0, 3] = arS l 0 gl gl.length → loopC Tryz.prog cf 3 (ev k) k (bodyOf Tryz.f3 0) S = _ := fun S hS => h gl gl.length S hS
    simp -implicitDefEqProofs [Tryz.f3, c1']
    refine bind_go (tail _ ?_) ?_
    · simp [arS]
    · simp
  · simp only [show (l.any fun t => decide (100 < t.text.length)) = false by simpa using c3, Bool.false_eq_true, if_false] at lp
    have k1 : (⟨[], l, 0, 0, 0⟩ : Cu).Ok := ⟨by simp only [List.length_nil]; omega, fun t ht => by
      simp only [List.any_eq_true, decide_eq_true_eq, not_exists, not_and] at c3
      have := c3 t ht
      omega⟩
    have hn := New_ev l
    have hr := aread_ev k1 (by simp only; omega)
    have hq := rARead_ev k1 (by simp only; omega)
    have hsm := readA_sm ⟨[], l, 0, 0, 0⟩
    have kx := (readA_ok k1).1
    generalize hc : (⟨[], l, 0, 0, 0⟩ : Cu) = c0 at hr hq hsm kx
    have ec : c0.w = cW [] l 0 0 0 := by rw [← hc]; rfl
    have er : c0.ref = cR [] l 0 0 0 := by rw [← hc]; rfl
    have hcr : c0.r.length = l.length := by rw [← hc]
    rw [← ec] at hn
    rw [er] at hq
    generalize readA c0 = x at hr hq hsm kx
    obtain ⟨d, m⟩ := x
    simp only at hr hsm kx hq
    have hsa : ∀ a ∈ m, a.Sm := fun a ha => ⟨by have := hsm.1 a ha; omega⟩
    have hs := rASame_ev m m (by omega) (by omega) hsa hsa
    rw [decide_eq_true rfl] at hs
    have hf := fault_ev (p := d.p) (r := d.r) (ln := d.ln) (cl := d.cl) (e := d.e)
    rw [show cW d.p d.r d.ln d.cl d.e = d.w from rfl] at hf
    have hx := next_c kx
    refine .intro Tryz.func3 (by kernel_rfl) ((lp.and (hn.and (hr.and (hq.and (hs.and (hf.and (hx.and ((rNext_c (c := d)).and awake08_ev)))))))).imp fun k ⟨h, h1, h2, h3, h4, h5, h6, h7, h8⟩ ro gl => ?_)
    have tail : ∀ S : St, S.hav [0, 3] = arS l 0 gl gl.length → loopC Tryz.prog cf 3 (ev k) k (bodyOf Tryz.f3 0) S = _ := fun S hS => h gl gl.length S hS
    have h2 := fun ro hro => h2 (gl ++ [c0.w]) gl.length ro (get_last _ _) hro
    have h5 := fun ro => h5 (gl ++ [d.w]) gl.length ro (get_last _ _)
    have h6 := fun ro => h6 (gl ++ [d.w]) gl.length ro (get_last _ _)
    simp only [set_last] at h2
    generalize c0.w = w0 at h1 h2
    generalize d.w = w1 at h2 h5 h6
    generalize d.next = nt at h6 h7
    simp [cR, show was [] = tk0 from rfl, tk0, Cu.ref, Tk.w] at h1 h2 h3 h4 h5 h6 h7 h8
    simp -implicitDefEqProofs [Tryz.f3, c1']
    refine bind_go (tail _ ?_) ?_
    · simp [arS]
    · simp -implicitDefEqProofs [arS, h1, h2, h3, h4, h5, h6, h7, h8]
theorem len4 {α : Type} {l : List α} (h : l.length = 4) : ∃ a b c d, l = [a, b, c, d] := by
  match l, h with
  | [a, b, c, d], _ => exact ⟨a, b, c, d, rfl⟩
theorem cl_tok : Tryz.prog.cellsOf 27 = 4 := by kernel_rfl
theorem cl_pos : Tryz.prog.cellsOf 25 = 2 := by kernel_rfl
theorem cl_int : Tryz.prog.cellsOf 3 = 1 := by kernel_rfl
theorem cl_str : Tryz.prog.cellsOf 9 = 1 := by kernel_rfl
theorem shape_tok {K : Nat} {x : List D} (h : Shape Tryz.prog (K + 3) 27 x) : ∃ t : Tk, x = t.c ∧ t.text.length ≤ maxLen := by
  simp only [Shape, Tryz.underlying27] at h
  obtain ⟨hl, hf⟩ := h
  rw [cl_tok] at hl
  obtain ⟨a, b, c, d, rfl⟩ := len4 hl
  simp [cl_pos, cl_int, cl_str, Shape] at hf
  obtain ⟨⟨k, rfl, _⟩, ⟨s, rfl, hs⟩, ⟨ln, rfl, _⟩, cl, rfl, _⟩ := hf
  exact ⟨⟨k, s, ln, cl⟩, rfl, by simpa using hs⟩
theorem map_of {α : Type} {f : α → List D} {p : List D → Prop} (h : ∀ x, p x → ∃ a, x = f a) : ∀ (xs : List (List D)), (∀ x ∈ xs, p x) → ∃ l : List α, xs = l.map f
  | [], _ => ⟨[], rfl⟩
  | x :: r, hx => by
    obtain ⟨a, rfl⟩ := h x (hx x (by simp))
    obtain ⟨l, rfl⟩ := map_of h r fun y hy => hx y (by simp [hy])
    exact ⟨a :: l, rfl⟩
theorem ActReads_ev (c0 : C) (h0 : ArgOf Tryz.prog 9 22 c0) : Gives 3 [c0] (V.bool true) := by
  obtain ⟨xs, rfl, hx, hx'⟩ := arg_slice (K := 8) (by kernel_rfl) h0
  obtain ⟨l, rfl⟩ := map_of (f := Tk.c) (p := Shape Tryz.prog 8 27) (fun x h => by obtain ⟨t, ht, _⟩ := shape_tok (K := 5) h; exact ⟨t, ht⟩) xs hx'
  exact ActReads_evL l (by simpa using hx)
end Go.Proofs.YtckonoejmjblfaaGreat.Ev
