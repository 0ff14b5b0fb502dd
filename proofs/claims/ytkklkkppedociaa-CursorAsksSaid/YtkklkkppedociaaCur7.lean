/- Layer 4: the theorem of asks. -/
import Derived.Test.YtkklkkppedociaaCur6
set_option linter.unusedVariables false
set_option linter.unusedSimpArgs false
set_option maxRecDepth 100000
set_option maxHeartbeats 4000000
namespace Go.Proofs.Ytkklkkppedociaa.Ev
open Go Go.RowKit

/-- A call that begins with nothing shared. -/
def Holds (f : Nat) (args : List C) (r : V) : Prop := ∃ gl, Does f args [] r gl
theorem Holds.goes {f : Nat} {args : List C} {r : V} (h : Holds f args r) : ∃ n gl, evF Try.prog cf xt n f args false [] = some (r, gl) := by
  obtain ⟨gl, h⟩ := h
  exact h.goes
theorem ca_end (asks : List Ask) (c : Cu) (k N : Nat) :
    (evC Try.prog cf 6 (ev k) N (bodyOf Try.f6 1) (caS asks c asks.length)).map (hv [1, 6, 7, 8]) = some (.exit 2, caS asks c asks.length) := by
  simp -implicitDefEqProofs [caS, bodyOf, loopsOf, hv, Try.f6]
theorem ca_loop : ∀ (r p : List Ask) (c : Cu), c.Ok → (p ++ r).length < 4611686018427387904 → Evt fun k => ∀ n S, r.length < n → S.hav [1, 6, 7, 8] = caS (p ++ r) c p.length →
    loopA (evC Try.prog cf 6 (ev k) k (bodyOf Try.f6 1)) [1, 6, 7, 8] [4] n S = some (.exit 2, caS (p ++ r) (r.foldl (fun c a => doAsk a c) c) (p ++ r).length)
  | [], p, c, hc, hb => .of fun k n S hn hS => by
    obtain ⟨n, rfl⟩ : ∃ m, n = m + 1 := ⟨n - 1, by simp at hn; omega⟩
    refine loop_exit ?_
    simp only [List.append_nil] at hS ⊢
    rw [hS]
    exact ca_end p c k k
  | a :: r, p, c, hc, hb => ((ca_round a p r c hc (by simp at hb; omega)).and (ca_loop r (p ++ [a]) (doAsk a c) (doAsk_ok a hc) (by simpa using hb))).imp fun k ⟨h1, h2⟩ n S hn hS => by
    obtain ⟨n, rfl⟩ : ∃ m, n = m + 1 := ⟨n - 1, by simp at hn; omega⟩
    have h1 := h1 k
    rw [← hS] at h1
    obtain ⟨S', hS', e⟩ := loop_on h1
    rw [e]
    have := h2 n S' (by simpa using hn) (by simpa using hS')
    simpa using this
def cbS (l : List Tk) (asks : List Ask) (i : Nat) : St := st 183 [(0, .c (L (l.map Tk.c))), (1, .c (L (asks.map Ask.c))), (5, V.int .i64 i)] [] [] [] false
theorem cb_loop (l : List Tk) (asks : List Ask) (hl : l.length < 4611686018427387904) (hm : ∀ t ∈ l, t.text.length ≤ 9223372036854775807) : Evt fun k => ∀ n S, l.length < n → S.hav [0, 1, 5] = cbS l asks 0 →
    loopA (evC Try.prog cf 6 (ev k) k (bodyOf Try.f6 0)) [0, 1, 5] [4] n S = some (if ∃ t ∈ l, 100 < t.text.length then (.ret, st 183 [(4, V.bool true)] [] [] [aw 2 1 4 2] false) else (.exit 0, cbS l asks l.length)) := by
  refine (cawake_ev []).imp fun k h n S hn hS => ?_
  simp only [List.nil_append] at h
  refine loop_by (fun a : List Tk × List Tk => cbS l asks a.1.length) (fun a => l = a.1 ++ a.2) (fun a => a.2.length) (fun a => if ∃ t ∈ a.2, 100 < t.text.length then (.ret, st 183 [(4, V.bool true)] [] [] [aw 2 1 4 2] false) else (.exit 0, cbS l asks l.length)) ?_ n ([], l) S rfl hn hS
  rintro ⟨p, r⟩ hs
  simp only at hs
  cases r with
  | nil =>
    obtain rfl : l = p := by simpa using hs
    refine .inr (.inl ⟨0, cbS l asks l.length, ?_, by simp⟩)
    simp -implicitDefEqProofs [cbS, bodyOf, loopsOf, hv, Try.f6]
  | cons t r =>
    have hlt : (p.length : Int) < p.length + (r.length + 1) := by omega
    have hp : p.length < 4611686018427387904 := by rw [hs] at hl; simp at hl; omega
    have w : IntKind.i64.wrap ((p.length : Int) + 1) = (p.length : Int) + 1 := i64w _ (by omega)
    by_cases ht : 100 < t.text.length
    · refine .inr (.inr ⟨_, ?_, by rw [if_pos ⟨t, by simp, ht⟩]⟩)
      have ht' : (100 : Int) < t.text.length := by omega
      subst hs
      simp -implicitDefEqProofs [cbS, bodyOf, loopsOf, hv, Try.f6, hlt, Tk.c, ht', h]
    · have ht' : ¬ (100 : Int) < t.text.length := by omega
      refine .inl ⟨(p ++ [t], r), by simp [hs], by simp, ?_, by simp [ht]⟩
      subst hs
      simp -implicitDefEqProofs [cbS, bodyOf, loopsOf, hv, Try.f6, hlt, Tk.c, ht', w]
theorem ca_ev (l : List Tk) (asks : List Ask) (hl : l.length ≤ 9223372036854775807) (ha : asks.length ≤ 9223372036854775807) (hm : ∀ t ∈ l, t.text.length ≤ 9223372036854775807) : Holds 6 [L (l.map Tk.c), L (asks.map Ask.c)] (V.bool true) := by
  have aw0 := cawake_ev []
  simp only [List.nil_append] at aw0
  by_cases c1 : 60 < l.length
  · have c1' : (60 : Int) < l.length := by omega
    refine ⟨[aw 2 1 4 2], .intro Try.func6 (by kernel_rfl) (aw0.imp fun k h => ?_)⟩
    simp -implicitDefEqProofs [Try.f6, c1', h]
  have c1' : ¬ (60 : Int) < l.length := by omega
  by_cases c2 : 60 < asks.length
  · have c2' : (60 : Int) < asks.length := by omega
    refine ⟨[aw 2 1 4 2], .intro Try.func6 (by kernel_rfl) (aw0.imp fun k h => ?_)⟩
    simp -implicitDefEqProofs [Try.f6, c1', c2', h]
  have c2' : ¬ (60 : Int) < asks.length := by omega
  have lp := cb_loop l asks (by omega) hm
  by_cases c3 : ∃ t ∈ l, 100 < t.text.length
  · refine ⟨[aw 2 1 4 2], .intro Try.func6 (by kernel_rfl) ((lp.and (Evt.ge (l.length + 1))).imp fun k ⟨h, hk⟩ => ?_)⟩
    have tail : ∀ S : St, S.hav [0, 1, 5] = cbS l asks 0 → loopC Try.prog cf 6 (ev k) k (bodyOf Try.f6 0) S = _ := fun S hS => h k S (by omega) hS
    simp -implicitDefEqProofs [Try.f6, c1', c2']
    refine bind_go (tail _ ?_) ?_
    · simp [cbS]
    · rw [if_pos c3]
      simp
  · have ok0 : (⟨[], l, 0, 0, 0⟩ : Cu).Ok := ⟨by simp; omega, fun t ht => by
      have : ¬ 100 < t.text.length := fun h => c3 ⟨t, ht, h⟩
      show t.text.length < _
      omega⟩
    have lq := ca_loop asks [] ⟨[], l, 0, 0, 0⟩ ok0 (by simp; omega)
    have n0 : Does 21 [L (l.map Tk.c)] [] (.c (.w (.glo 0 0))) [cW [] l 0 0 0] := New_ev [] l
    generalize hce : asks.foldl (fun c a => doAsk a c) ⟨[], l, 0, 0, 0⟩ = ce at lq
    have oke : ce.Ok := by
      rw [← hce]
      clear hce lq
      generalize (⟨[], l, 0, 0, 0⟩ : Cu) = c at ok0
      clear ha c2 c2' lp n0
      induction asks generalizing c with
      | nil => exact ok0
      | cons a r ih => exact ih _ (doAsk_ok a ok0)
    have f1 := next_c (one_get ce.w) oke
    have f2 := cawake_ev [ce.w]
    simp only [List.singleton_append] at f2
    refine ⟨[ce.w, aw 2 1 4 2], .intro Try.func6 (by kernel_rfl) ((lp.and (lq.and (n0.and (f1.and ((rNext_c (c := ce)).and (f2.and (Evt.ge (l.length + asks.length + 1)))))))).imp fun k ⟨h, h', h1, h2, h3, h4, hk⟩ => ?_)⟩
    have tail : ∀ S : St, S.hav [0, 1, 5] = cbS l asks 0 → loopC Try.prog cf 6 (ev k) k (bodyOf Try.f6 0) S = _ := fun S hS => h k S (by omega) hS
    have tail2 : ∀ S : St, S.hav [1, 6, 7, 8] = caS asks ⟨[], l, 0, 0, 0⟩ 0 → loopC Try.prog cf 6 (ev k) k (bodyOf Try.f6 1) S = _ := fun S hS => h' k S (by omega) hS
    simp only [Cu.w, cW, Cu.ref, cR, Tk.w] at h1 h2 h3 h4
    simp only [List.length_nil, List.map_nil, List.nil_append] at h1
    simp -implicitDefEqProofs [Try.f6, c1', c2']
    refine bind_go (tail _ ?_) ?_
    · simp [cbS]
    · rw [if_neg c3]
      simp -implicitDefEqProofs [cbS, h1]
      refine bind_go (tail2 _ ?_) ?_
      · simp [caS, Cu.w, cW, was, tk0]
      · simp -implicitDefEqProofs [caS, Cu.w, cW, h2, h3, h4]
theorem CursorAsks_ev (c0 : C) (h0 : ArgOf Try.prog 9 34 c0) (c1 : C) (h1 : ArgOf Try.prog 9 35 c1) : Holds 6 [c0, c1] (V.bool true) := by
  obtain ⟨xs, rfl, hx, hx'⟩ := arg_slice (K := 8) (by kernel_rfl) h0
  obtain ⟨ys, rfl, hy, hy'⟩ := arg_slice (K := 8) (by kernel_rfl) h1
  obtain ⟨l, rfl⟩ := map_of (f := Tk.c) (p := Shape Try.prog 8 39) (fun x h => by obtain ⟨t, ht, _⟩ := shape_tok (K := 5) h; exact ⟨t, ht⟩) xs hx'
  obtain ⟨m, rfl⟩ := map_of (f := Ask.c) (p := Shape Try.prog 8 45) (fun x h => shape_ask (K := 6) h) ys hy'
  refine ca_ev l m (by simpa using hx) (by simpa using hy) fun t ht => ?_
  obtain ⟨u, hu, hl⟩ := shape_tok (K := 5) (hx' t.c (List.mem_map_of_mem ht))
  have : t.text = u.text := by
    simp [Tk.c] at hu
    exact hu.2.1
  rw [this]
  exact hl
end Go.Proofs.Ytkklkkppedociaa.Ev
