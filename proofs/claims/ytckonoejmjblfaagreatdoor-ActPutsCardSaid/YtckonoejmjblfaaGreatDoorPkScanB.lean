/- Layer 3: all tokens. -/
import Derived.Test.YtckonoejmjblfaaGreatDoorPkScanA
import Derived.Test.YtckonoejmjblfaaGreatDoorPkCur
set_option linter.unusedVariables false
set_option linter.unusedSimpArgs false
set_option maxRecDepth 100000
set_option maxHeartbeats 4000000
namespace Go.Proofs.YtckonoejmjblfaaGreatDoor.Ev
open Go Go.RowKit

theorem pre_len {s p : List UInt8} (h : pre s p = true) : p.length ≤ s.length := by
  simp only [pre, Bool.and_eq_true, decide_eq_true_eq] at h
  exact h.1
theorem markN_le (c : UInt8) (r : List UInt8) : markN (c :: r) ≤ (c :: r).length := by
  unfold markN
  split
  · rename_i h
    obtain ⟨m, hm, hp⟩ := List.any_eq_true.1 h
    have := pre_len hp
    have hl : m.length = 2 := by
      simp only [marks2, List.mem_cons, List.not_mem_nil, or_false] at hm
      rcases hm with rfl | rfl | rfl | rfl | rfl | rfl | rfl <;> rfl
    omega
  · split <;> simp
theorem nextT_le (c : UInt8) (r : List UInt8) : (nextT (c :: r)).2.1 ≤ (c :: r).length := by
  have t1 := takeWhile_le wordC (c :: r)
  have t2 := takeWhile_le figC (c :: r)
  have t3 := markN_le c r
  unfold nextT
  repeat' split
  all_goals first | exact Nat.zero_le _ | exact t1 | exact t2 | exact t3
/-- The error that is told at a token: too many. -/
def tokE (s : List UInt8) (n : Nat) : Int := if (nextT s).2.2 = 0 ∧ n = 4000 then 8 else (nextT s).2.2
def Wk.tok (w : Wk) : Tk := ⟨(nextT w.s).1, w.s.take (nextT w.s).2.1, w.ln, w.cl⟩
def Wk.go (w : Wk) : Wk := (w.step (nextT w.s).2.1).rest ((w.step (nextT w.s).2.1).s.length + 1)
def tkS (acc : List Tk) (w : Wk) (gl : List (List W)) : St :=
  st 76 [(3, .c (.w (.box 3 0))), (5, .c (.w (.glo gl.length 0))), (6, if acc = [] then .c (.w (.full [])) else .c (.w (.app 66 (acc.map Tk.c)))), (66, if acc = [] then V.un else .c (.w (.app 66 (acc.map Tk.c))))]
    [(3, [.d (.int .i64 0), .d (.int .i64 0)])] (if acc = [] then [] else [(66, ⟨acc.length, 66, 4⟩)]) (gl ++ [w.w]) gl.length
theorem tk_round {c : UInt8} {r : List UInt8} {ln cl : Int} (hk : (⟨c :: r, ln, cl⟩ : Wk).Ok) (acc : List Tk) (ha : acc.length ≤ 4000) : Evt fun k => ∀ N gl,
    (tokE (c :: r) acc.length ≠ 0 → (evC Tryz.prog cf 28 (ev k) N (bodyOf Tryz.f28 0) (tkS acc ⟨c :: r, ln, cl⟩ gl)).map (hv [2, 3, 4])
      = some (.ret, st 76 [(2, .c (.w (.full []))), (3, .c (.w (.box 3 0))), (4, V.int .i64 (tokE (c :: r) acc.length))] [(3, [.d (.int .i64 ln), .d (.int .i64 cl)])] [] (gl ++ [(⟨c :: r, ln, cl⟩ : Wk).w]) gl.length)) ∧
    (tokE (c :: r) acc.length = 0 → (evC Tryz.prog cf 28 (ev k) N (bodyOf Tryz.f28 0) (tkS acc ⟨c :: r, ln, cl⟩ gl)).map (hv [3, 5, 6, 66])
      = some (.normal, tkS (acc ++ [(⟨c :: r, ln, cl⟩ : Wk).tok]) (⟨c :: r, ln, cl⟩ : Wk).go gl)) := by
  have hl : r.length + 1 < 4611686018427387904 := by
    have q0 := hk.c0
    have q1 := hk.c1
    simp only [List.length_cons] at q0 q1
    omega
  have ok1 := hk.step (nextT_le c r)
  refine ((next_ev c r hl).and ((step_c hk (nextT_le c r)).and (rest_c ok1))).imp fun k ⟨h1, h2, h3⟩ N gl => ?_
  have h2 := fun ro hro => h2 (gl ++ [(⟨c :: r, ln, cl⟩ : Wk).w]) gl.length ro (get_last _ _) hro
  have h3 := fun ro hro => h3 (gl ++ [((⟨c :: r, ln, cl⟩ : Wk).step (nextT (c :: r)).2.1).w]) gl.length ro (get_last _ _) hro
  simp only [set_last] at h2 h3
  unfold tokE Wk.tok Wk.go
  simp only
  generalize hw1 : (⟨c :: r, ln, cl⟩ : Wk).step (nextT (c :: r)).2.1 = w1 at h2 h3 ⊢
  generalize hw2 : (w1.rest (w1.s.length + 1)) = w2 at h3 ⊢
  have hn := nextT_le c r
  generalize nextT (c :: r) = t at h1 h2 hn ⊢
  obtain ⟨kd, n, e⟩ := t
  simp only [Wk.w] at h1 h2 h3 hn ⊢
  have g0 : (0 : Int) < r.length + 1 := by omega
  by_cases he : e = 0
  · subst he
    by_cases h4 : acc.length = 4000
    · rw [if_pos ⟨rfl, h4⟩]
      refine ⟨fun _ => ?_, fun h => by cases h⟩
      rcases acc with _ | ⟨a, q⟩
      · cases h4
      · have h4' : (q.length : Int) + 1 = 4000 := by simp at h4; omega
        simp -implicitDefEqProofs [tkS, Wk.w, bodyOf, loopsOf, hv, Tryz.f28, h1, h4', g0]
    · rw [if_neg (by simp [h4])]
      refine ⟨fun h => absurd rfl h, fun _ => ?_⟩
      rcases acc with _ | ⟨a, q⟩
      · simp -implicitDefEqProofs [tkS, Wk.w, bodyOf, loopsOf, hv, Tryz.f28, h1, h2, h3, g0, Tk.c]
      · have h4' : ¬ (q.length : Int) + 1 = 4000 := by simp at h4; omega
        have h5 : (q.length + 1 + 1) * 40 ≤ 140737488355328 := by simp at ha; omega
        have h6 : q.length ≤ 9223372036854775805 := by simp at ha; omega
        simp -implicitDefEqProofs [tkS, Wk.w, bodyOf, loopsOf, hv, Tryz.f28, h1, h2, h3, h4', h5, h6, g0, Tk.c]
  · rw [if_neg (by simp [he])]
    refine ⟨fun _ => ?_, fun h => absurd h he⟩
    rcases acc with _ | ⟨a, q⟩
    · simp -implicitDefEqProofs [tkS, Wk.w, bodyOf, loopsOf, hv, Tryz.f28, h1, he, g0]
    · simp -implicitDefEqProofs [tkS, Wk.w, bodyOf, loopsOf, hv, Tryz.f28, h1, he, g0]
end Go.Proofs.YtckonoejmjblfaaGreatDoor.Ev

/- Layer 3: a text's tokens. -/
set_option linter.unusedVariables false
set_option linter.unusedSimpArgs false
set_option maxRecDepth 100000
set_option maxHeartbeats 4000000
namespace Go.Proofs.YtckonoejmjblfaaGreatDoor.Ev
open Go Go.RowKit

def toks : Nat → List Tk → Wk → List Tk × Wk × Int
  | 0, acc, w => (acc, w, 0)
  | f + 1, acc, w => if w.s = [] then (acc, w, 0) else if tokE w.s acc.length = 0 then toks f (acc ++ [w.tok]) w.go else (acc, w, tokE w.s acc.length)
theorem nextT_pos (c : UInt8) (r : List UInt8) (h : (nextT (c :: r)).2.2 = 0) : 0 < (nextT (c :: r)).2.1 := by
  have hw : lowC c = true → wordC c = true := fun h => by simp [wordC, h]
  unfold nextT at h ⊢
  simp only [List.headD_cons] at h ⊢
  by_cases hl : lowC c = true
  · simp only [hl, if_true] at h ⊢
    by_cases h2 : 12 < ((c :: r).takeWhile wordC).length
    · simp [h2] at h
    · rw [if_neg h2]; simp [List.takeWhile_cons, hw hl]
  · simp only [hl, if_false] at h ⊢
    by_cases hf : figC c = true
    · simp only [hf, if_true] at h ⊢
      by_cases h2 : ((c :: r).drop ((c :: r).takeWhile figC).length).head?.any wordC = true
      · rw [if_pos h2] at h; simp at h
      · rw [if_neg h2] at h ⊢
        by_cases h3 : 9 < ((c :: r).takeWhile figC).length
        · simp [h3] at h
        · rw [if_neg h3]; simp [List.takeWhile_cons, hf]
    · simp only [hf, if_false] at h ⊢
      by_cases h2 : markN (c :: r) = 0
      · simp [h2] at h
      · rw [if_neg h2]; show 0 < markN (c :: r); omega
theorem rest_len : ∀ (f : Nat) (w : Wk), (w.rest f).s.length ≤ w.s.length
  | 0, w => Nat.le_refl _
  | f + 1, w => by
    unfold Wk.rest
    split
    · exact Nat.le_refl _
    · refine Nat.le_trans (rest_len f _) ?_
      simp only [Wk.step, List.length_drop]
      omega
theorem tokE_zero {s : List UInt8} {n : Nat} (h : tokE s n = 0) : (nextT s).2.2 = 0 ∧ n ≠ 4000 := by
  unfold tokE at h
  split at h
  · cases h
  · rename_i h'
    exact ⟨h, fun e => h' ⟨h, e⟩⟩
theorem go_len {c : UInt8} {r : List UInt8} {ln cl : Int} (h : (nextT (c :: r)).2.2 = 0) : (⟨c :: r, ln, cl⟩ : Wk).go.s.length < (c :: r).length := by
  refine Nat.lt_of_le_of_lt (rest_len _ _) ?_
  have := nextT_pos c r h
  simp only [Wk.step, List.length_drop, List.length_cons]
  omega
theorem Wk.Ok.go {c : UInt8} {r : List UInt8} {ln cl : Int} (h : (⟨c :: r, ln, cl⟩ : Wk).Ok) : (⟨c :: r, ln, cl⟩ : Wk).go.Ok := (h.step (nextT_le c r)).rest
def tkR (gl : List (List W)) (x : List Tk × Wk × Int) : Ex × St :=
  if x.2.2 = 0 then (.exit 0, tkS x.1 x.2.1 gl) else (.ret, st 76 [(2, .c (.w (.full []))), (3, .c (.w (.box 3 0))), (4, V.int .i64 x.2.2)] [(3, [.d (.int .i64 x.2.1.ln), .d (.int .i64 x.2.1.cl)])] [] (gl ++ [x.2.1.w]) gl.length)
theorem tk_loop : ∀ (f : Nat) (acc : List Tk) (w : Wk), w.Ok → acc.length ≤ 4000 → w.s.length < f → Evt fun k => ∀ gl n S, f ≤ n → S.hav [3, 5, 6, 66] = tkS acc w gl →
    loopA (evC Tryz.prog cf 28 (ev k) k (bodyOf Tryz.f28 0)) [3, 5, 6, 66] [2, 3, 4] n S = some (tkR gl (toks f acc w))
  | 0, acc, w, _, _, hf => absurd hf (by omega)
  | f + 1, acc, ⟨[], ln, cl⟩, hk, ha, hf => .of fun k gl n S hn hS => by
    obtain ⟨n, rfl⟩ : ∃ m, n = m + 1 := ⟨n - 1, by omega⟩
    have e : tkR gl (toks (f + 1) acc ⟨[], ln, cl⟩) = (.exit 0, tkS acc ⟨[], ln, cl⟩ gl) := rfl
    rw [e]
    refine loop_exit ?_
    rw [hS]
    rcases acc with _ | ⟨a, q⟩
    · simp -implicitDefEqProofs [tkS, Wk.w, bodyOf, loopsOf, hv, Tryz.f28]
    · simp -implicitDefEqProofs [tkS, Wk.w, bodyOf, loopsOf, hv, Tryz.f28]
  | f + 1, acc, ⟨c :: r, ln, cl⟩, hk, ha, hf => by
    by_cases h0 : tokE (c :: r) acc.length = 0
    · obtain ⟨h1, h2⟩ := tokE_zero h0
      have hlen := go_len (c := c) (r := r) (ln := ln) (cl := cl) h1
      refine ((tk_round hk acc ha).and (tk_loop f (acc ++ [(⟨c :: r, ln, cl⟩ : Wk).tok]) _ hk.go (by simp; omega) (by simp only at hf; omega))).imp fun k ⟨q1, q2⟩ gl n S hn hS => ?_
      obtain ⟨n, rfl⟩ : ∃ m, n = m + 1 := ⟨n - 1, by omega⟩
      have r1 := (q1 k gl).2 h0
      rw [← hS] at r1
      obtain ⟨S', hS', e⟩ := loop_on r1
      rw [e, q2 gl n S' (by omega) hS']
      congr 2
      rw [toks, if_neg (by simp), if_pos h0]
    · refine (tk_round hk acc ha).imp fun k q1 gl n S hn hS => ?_
      obtain ⟨n, rfl⟩ : ∃ m, n = m + 1 := ⟨n - 1, by omega⟩
      have e : tkR gl (toks (f + 1) acc ⟨c :: r, ln, cl⟩) = (.ret, st 76 [(2, .c (.w (.full []))), (3, .c (.w (.box 3 0))), (4, V.int .i64 (tokE (c :: r) acc.length))] [(3, [.d (.int .i64 ln), .d (.int .i64 cl)])] [] (gl ++ [(⟨c :: r, ln, cl⟩ : Wk).w]) gl.length) := by
        rw [toks, if_neg (by simp), if_neg h0, tkR, if_neg h0]
      rw [e]
      refine loop_ret ?_
      rw [hS]
      exact (q1 k gl).1 h0
/-- A text's tokens, as scan.Tokens tells them. -/
def tokV (s : List UInt8) : V :=
  if 65536 < s.length then .tup [L [], .agg [.d (.int .i64 1), .d (.int .i64 1)], I 5]
  else if (toks (s.length + 1) [] ((⟨s, 1, 1⟩ : Wk).rest (s.length + 1))).2.2 = 0 then
    .tup [L (((toks (s.length + 1) [] ((⟨s, 1, 1⟩ : Wk).rest (s.length + 1))).1 ++ [(⟨0, [], (toks (s.length + 1) [] ((⟨s, 1, 1⟩ : Wk).rest (s.length + 1))).2.1.ln, (toks (s.length + 1) [] ((⟨s, 1, 1⟩ : Wk).rest (s.length + 1))).2.1.cl⟩ : Tk)]).map Tk.c), .agg [.d (.int .i64 0), .d (.int .i64 0)], I 0]
  else .tup [L [], .agg [.d (.int .i64 (toks (s.length + 1) [] ((⟨s, 1, 1⟩ : Wk).rest (s.length + 1))).2.1.ln), .d (.int .i64 (toks (s.length + 1) [] ((⟨s, 1, 1⟩ : Wk).rest (s.length + 1))).2.1.cl)], I (toks (s.length + 1) [] ((⟨s, 1, 1⟩ : Wk).rest (s.length + 1))).2.2]
theorem toks_len : ∀ (f : Nat) (acc : List Tk) (w : Wk), acc.length ≤ 4000 → (toks f acc w).1.length ≤ 4000
  | 0, acc, w, h => h
  | f + 1, acc, w, h => by
    unfold toks
    split
    · exact h
    · split
      · rename_i h0
        have := (tokE_zero h0).2
        exact toks_len f _ _ (by simp; omega)
      · exact h
theorem Tokens_ev (s : List UInt8) (hs : s.length ≤ 9223372036854775807) : Gives 28 [T s] (tokV s) := by
  unfold tokV
  by_cases hl : 65536 < s.length
  · rw [if_pos hl]
    have hl' : (65536 : Int) < s.length := by omega
    refine .intro Tryz.func28 (by kernel_rfl) (.of fun k ro gl => ?_)
    simp -implicitDefEqProofs [Tryz.f28, hl']
  · rw [if_neg hl]
    have hl' : ¬ (65536 : Int) < s.length := by omega
    have ok0 : (⟨s, 1, 1⟩ : Wk).Ok := ⟨by simp only; omega, by simp only; omega, by simp only; omega, by simp only; omega⟩
    have r0 := rest_c ok0
    have hlen := rest_len (s.length + 1) ⟨s, 1, 1⟩
    simp only at r0 hlen
    generalize hw : (⟨s, 1, 1⟩ : Wk).rest (s.length + 1) = w1 at r0 hlen ⊢
    have ok1 : w1.Ok := by rw [← hw]; exact ok0.rest
    have lp := tk_loop (s.length + 1) [] w1 ok1 (by simp) (by omega)
    have hx := toks_len (s.length + 1) [] w1 (by simp)
    generalize toks (s.length + 1) [] w1 = x at lp hx ⊢
    obtain ⟨acc, w2, e⟩ := x
    simp only at hx ⊢
    refine .intro Tryz.func28 (by kernel_rfl) (r0.and (lp.and (Evt.ge (s.length + 1))) |>.imp fun k ⟨h1, h2, hk⟩ ro gl => ?_)
    have h1 := fun ro hro => h1 (gl ++ [(⟨s, 1, 1⟩ : Wk).w]) gl.length ro (get_last _ _) hro
    simp only [set_last, Wk.w] at h1
    have tail : ∀ S : St, S.hav [3, 5, 6, 66] = tkS [] w1 gl → loopC Tryz.prog cf 28 (ev k) k (bodyOf Tryz.f28 0) S = _ := fun S hS => h2 gl k S hk hS
    simp -implicitDefEqProofs [Tryz.f28, hl', h1]
    refine bind_go (tail _ ?_) ?_
    · simp [tkS, Wk.w]
    · unfold tkR
      by_cases he : e = 0
      · subst he
        simp only [if_true]
        rcases acc with _ | ⟨a, q⟩
        · simp -implicitDefEqProofs [tkS, Wk.w, Tk.c]
        · have h5 : (q.length + 1 + 1) * 40 ≤ 140737488355328 := by simp at hx; omega
          have h6 : q.length ≤ 9223372036854775805 := by simp at hx; omega
          simp -implicitDefEqProofs [tkS, Wk.w, Tk.c, h5, h6]
      · simp only [he, if_false]
        simp -implicitDefEqProofs [Wk.w]
end Go.Proofs.YtckonoejmjblfaaGreatDoor.Ev
