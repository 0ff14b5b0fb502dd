/- Layer 3: what the program goes past is what the document goes past. -/
import Derived.Test.YtckonoejmjblfaaGreatDoorPkRscA
set_option linter.unusedVariables false
set_option linter.unusedSimpArgs false
set_option maxRecDepth 100000
set_option maxHeartbeats 4000000
namespace Go.Proofs.YtckonoejmjblfaaGreatDoor.Ev
open Go Go.RowKit

theorem idx_cm : ∀ s : List UInt8, (if Lib.indexByte s 10 < 0 then s.length else (Lib.indexByte s 10).toNat) = cm s
  | [] => by simp [cm, Lib.indexByte]
  | b :: s => by
    have ih := idx_cm s
    have hg := Lib.indexByte_ge s 10
    by_cases h : b = 10
    · subst h; simp [cm, Lib.indexByte]
    · have e : cm (b :: s) = cm s + 1 := by simp [cm, List.takeWhile_cons, h]
      have h' : (b == 10) = false := by simpa using h
      rw [e, ← ih, Lib.indexByte, h']
      by_cases hi : Lib.indexByte s 10 = -1
      · simp [hi]
      · have : (Lib.indexByte s 10 == -1) = false := by simpa using hi
        simp only [this, Bool.false_eq_true, if_false]
        rw [if_neg (by omega), if_neg (by omega)]
        omega
theorem sk_blank : ∀ s : List UInt8, sk false s = (s.takeWhile fun c => blank c.toNat).length + sk false (s.drop (s.takeWhile fun c => blank c.toNat).length)
  | [] => rfl
  | b :: s => by
    have ih := sk_blank s
    by_cases h : blank b.toNat = true
    · simp only [sk, h, if_true, List.takeWhile_cons, List.length_cons, List.drop_succ_cons]
      omega
    · simp [List.takeWhile_cons, h]
theorem tw_dw (p : UInt8 → Bool) : ∀ s : List UInt8, s.length - (s.dropWhile p).length = (s.takeWhile p).length := fun s => by
  have := congrArg List.length (List.takeWhile_append_dropWhile (p := p) (l := s))
  rw [List.length_append] at this
  omega
theorem pre_hash (s : List UInt8) : pre s [35] = true ↔ ∃ r, s = 35 :: r := by
  cases s with
  | nil => simp [pre]
  | cons c r => simp [pre]
theorem gap_sk (s : List UInt8) : sk false s = gapN s + sk false (s.drop (gapN s)) ∧ (gapN s = 0 → sk false s = 0) := by
  unfold gapN
  cases hp : pre s [35] with
  | true =>
    obtain ⟨r, rfl⟩ := (pre_hash s).1 hp
    have e : cm (35 :: r) = cm r + 1 := by simp [cm, List.takeWhile_cons]
    have e2 : sk false (35 :: r) = 1 + sk true r := by simp [sk, blank]
    simp only [if_true]
    rw [idx_cm, e, e2, sk_true, List.drop_succ_cons]
    exact ⟨by omega, fun h => by omega⟩
  | false =>
    simp only [Bool.false_eq_true, if_false]
    rw [tw_dw]
    refine ⟨sk_blank s, fun h => ?_⟩
    cases s with
    | nil => rfl
    | cons c r =>
      have hb : ¬ blank c.toNat = true := by
        intro hb
        simp [List.takeWhile_cons, hb] at h
      have hh : ¬ c = 35 := by
        rintro rfl
        have := (pre_hash (35 :: r)).2 ⟨r, rfl⟩
        rw [hp] at this
        cases this
      simp [sk, hb, hh]
theorem step_step (w : Wk) (a b : Nat) : (w.step a).step b = w.step (a + b) := by
  unfold Wk.step
  simp only [List.drop_drop]
  have e : w.s.take (a + b) = w.s.take a ++ (w.s.drop a).take b := List.take_add ..
  rw [e, adv_append]
theorem step_zero (w : Wk) : w.step 0 = w := by
  obtain ⟨s, ln, cl⟩ := w
  simp [Wk.step, adv]
theorem rest_sk : ∀ (f : Nat) (w : Wk), w.s.length < f → w.rest f = w.step (sk false w.s)
  | 0, w, h => absurd h (by omega)
  | f + 1, w, h => by
    obtain ⟨h1, h2⟩ := gap_sk w.s
    have hle := gapN_le w.s
    unfold Wk.rest
    split
    · rename_i h0
      rw [h2 h0, step_zero]
    · have hl : (w.step (gapN w.s)).s.length < f := by
        simp only [Wk.step, List.length_drop]
        omega
      rw [rest_sk f _ hl, step_step]
      congr 1
      exact h1.symm
/-- The walker at a place of the text. -/
def wAt (s : List UInt8) (i : Nat) : Wk := ⟨s.drop i, (adv (s.take i) 1 1).1, (adv (s.take i) 1 1).2⟩
theorem wAt_step (s : List UInt8) (i n : Nat) : (wAt s i).step n = wAt s (i + n) := by
  have e : wAt s i = (⟨s, 1, 1⟩ : Wk).step i := rfl
  rw [e, step_step]
  rfl
theorem wAt_rest (s : List UInt8) (i : Nat) {f : Nat} (h : s.length - i < f) : (wAt s i).rest f = wAt s (i + sk false (s.drop i)) := by
  rw [rest_sk _ _ (by simpa [wAt] using h), wAt_step]
  rfl
theorem wAt_go (s : List UInt8) (i : Nat) : (wAt s i).go = wAt s (i + (nextT (s.drop i)).2.1 + sk false (s.drop (i + (nextT (s.drop i)).2.1))) := by
  unfold Wk.go
  rw [show (wAt s i).s = s.drop i from rfl, wAt_step]
  exact wAt_rest s _ (by simp [wAt])
end Go.Proofs.YtckonoejmjblfaaGreatDoor.Ev

/- Layer 3: the document's tokens are the program's. -/
set_option linter.unusedVariables false
set_option linter.unusedSimpArgs false
set_option maxRecDepth 100000
set_option maxHeartbeats 4000000
namespace Go.Proofs.YtckonoejmjblfaaGreatDoor.Ev
open Go Go.RowKit

def rkS (s : List UInt8) (acc : List Tk) (i : Nat) (gl : List (List W)) (ro : Nat) : St :=
  st 64 [(0, .c (T s)), (3, .c (.w (.box 3 0))), (5, if acc = [] then .c (.w (.full [])) else .c (.w (.app 52 (acc.map Tk.c)))), (6, V.int .i64 i), (52, if acc = [] then V.un else .c (.w (.app 52 (acc.map Tk.c))))]
    [(3, [.d (.int .i64 0), .d (.int .i64 0)])] (if acc = [] then [] else [(52, ⟨acc.length, 66, 4⟩)]) gl ro
theorem rk_round (s : List UInt8) (hs : s.length ≤ 65536) (i : Nat) (hi : i < s.length) (acc : List Tk) (ha : acc.length ≤ 4000) : Evt fun k => ∀ N gl ro,
    (tokE (s.drop i) acc.length ≠ 0 → (evC Tryz.prog cf 67 (ev k) N (bodyOf Tryz.f67 0) (rkS s acc i gl ro)).map (hv [2, 3, 4])
      = some (.ret, st 64 [(2, .c (.w (.full []))), (3, .c (.w (.box 3 0))), (4, V.int .i64 (tokE (s.drop i) acc.length))] [(3, [.d (.int .i64 (wAt s i).ln), .d (.int .i64 (wAt s i).cl)])] [] gl ro)) ∧
    (tokE (s.drop i) acc.length = 0 → (evC Tryz.prog cf 67 (ev k) N (bodyOf Tryz.f67 0) (rkS s acc i gl ro)).map (hv [0, 3, 5, 6, 52])
      = some (.normal, rkS s (acc ++ [(wAt s i).tok]) (i + (nextT (s.drop i)).2.1 + sk false (s.drop (i + (nextT (s.drop i)).2.1))) gl ro)) := by
  have hd : s.drop i = s[i] :: s.drop (i + 1) := List.drop_eq_getElem_cons hi
  have hn : (nextT (s.drop i)).2.1 ≤ (s.drop i).length := by rw [hd]; exact nextT_le _ _
  rw [List.length_drop] at hn
  refine ((One_ev s (by omega) i hi).and ((Pos_ev s (by omega) i (by omega)).and (Gap_ev s (by omega) (i + (nextT (s.drop i)).2.1) (by omega)))).imp fun k ⟨h1, h2, h3⟩ N gl ro => ?_
  have e1 : (wAt s i).ln = (adv (s.take i) 1 1).1 := rfl
  have e2 : (wAt s i).cl = (adv (s.take i) 1 1).2 := rfl
  rw [← e1, ← e2] at h2
  unfold tokE Wk.tok
  rw [show (wAt s i).s = s.drop i from rfl]
  have hl : (i : Int) < s.length := by omega
  generalize nextT (s.drop i) = t at h1 h3 hn ⊢
  obtain ⟨kd, n, e⟩ := t
  simp only at h1 h3 hn ⊢
  generalize sk false (s.drop (i + n)) = g at h3 ⊢
  generalize wAt s i = w at h2 ⊢
  obtain ⟨ws, ln, cl⟩ := w
  simp only at h2 ⊢
  have h3' : ∀ ro gl, ev k 120 [T s, I ((i : Int) + n)] ro gl = some (V.int .i64 ((i : Int) + n + g), gl) := fun ro gl => by
    have := h3 ro gl
    simpa using this
  have ht : ((i : Int) + n).toNat = i + n := by omega
  have g1 : (0 : Int) ≤ (i : Int) + n := by omega
  have g2 : (i : Int) + n ≤ s.length := by omega
  have g3 : (i : Int) ≤ (i : Int) + n := by omega
  by_cases he : e = 0
  · subst he
    simp only [if_true] at h1
    by_cases h4 : acc.length = 4000
    · rw [if_pos ⟨rfl, h4⟩]
      refine ⟨fun _ => ?_, fun h => by cases h⟩
      rcases acc with _ | ⟨a, q⟩
      · cases h4
      · have h4' : (q.length : Int) + 1 = 4000 := by simp at h4; omega
        simp -implicitDefEqProofs [rkS, bodyOf, loopsOf, hv, Tryz.f67, h1, h2, h4', hl]
    · rw [if_neg (by simp [h4])]
      refine ⟨fun h => absurd rfl h, fun _ => ?_⟩
      rcases acc with _ | ⟨a, q⟩
      · simp -implicitDefEqProofs [rkS, bodyOf, loopsOf, hv, Tryz.f67, h1, h2, h3', hl, Tk.c, ht, g1, g2, g3, List.drop_take]
      · have h4' : ¬ (q.length : Int) + 1 = 4000 := by simp at h4; omega
        have h5 : (q.length + 1 + 1) * 40 ≤ 140737488355328 := by simp at ha; omega
        have h6 : q.length ≤ 9223372036854775805 := by simp at ha; omega
        simp -implicitDefEqProofs [rkS, bodyOf, loopsOf, hv, Tryz.f67, h1, h2, h3', h4', h5, h6, hl, Tk.c, ht, g1, g2, g3, List.drop_take]
  · rw [if_neg (by simp [he])]
    simp only [he, if_false] at h1
    refine ⟨fun _ => ?_, fun h => absurd h he⟩
    rcases acc with _ | ⟨a, q⟩
    · simp -implicitDefEqProofs [rkS, bodyOf, loopsOf, hv, Tryz.f67, h1, h2, he, hl]
    · simp -implicitDefEqProofs [rkS, bodyOf, loopsOf, hv, Tryz.f67, h1, h2, he, hl]
end Go.Proofs.YtckonoejmjblfaaGreatDoor.Ev

/- Layer 3: the document's tokens of any text are the program's. -/
set_option linter.unusedVariables false
set_option linter.unusedSimpArgs false
set_option maxRecDepth 100000
set_option maxHeartbeats 4000000
namespace Go.Proofs.YtckonoejmjblfaaGreatDoor.Ev
open Go Go.RowKit

def rkR (s : List UInt8) (gl : List (List W)) (ro : Nat) (x : List Tk × Wk × Int) : Ex × St :=
  if x.2.2 = 0 then (.exit 0, rkS s x.1 s.length gl ro) else (.ret, st 64 [(2, .c (.w (.full []))), (3, .c (.w (.box 3 0))), (4, V.int .i64 x.2.2)] [(3, [.d (.int .i64 x.2.1.ln), .d (.int .i64 x.2.1.cl)])] [] gl ro)
theorem wAt_end (s : List UInt8) : (wAt s s.length).s = [] := by simp [wAt]
theorem rk_loop (s : List UInt8) (hs : s.length ≤ 65536) : ∀ (f : Nat) (acc : List Tk) (i : Nat), i ≤ s.length → acc.length ≤ 4000 → s.length - i < f → Evt fun k => ∀ gl ro n S, f ≤ n → S.hav [0, 3, 5, 6, 52] = rkS s acc i gl ro →
    loopA (evC Tryz.prog cf 67 (ev k) k (bodyOf Tryz.f67 0)) [0, 3, 5, 6, 52] [2, 3, 4] n S = some (rkR s gl ro (toks f acc (wAt s i)))
  | 0, acc, i, _, _, hf => absurd hf (by omega)
  | f + 1, acc, i, hi, ha, hf => by
    by_cases he : i = s.length
    · subst he
      refine .of fun k gl ro n S hn hS => ?_
      obtain ⟨n, rfl⟩ : ∃ m, n = m + 1 := ⟨n - 1, by omega⟩
      have e : rkR s gl ro (toks (f + 1) acc (wAt s s.length)) = (.exit 0, rkS s acc s.length gl ro) := by
        rw [toks, if_pos (wAt_end s)]
        rfl
      rw [e]
      refine loop_exit ?_
      rw [hS]
      rcases acc with _ | ⟨a, q⟩
      · simp -implicitDefEqProofs [rkS, bodyOf, loopsOf, hv, Tryz.f67]
      · simp -implicitDefEqProofs [rkS, bodyOf, loopsOf, hv, Tryz.f67]
    · have hlt : i < s.length := by omega
      have hd : s.drop i = s[i] :: s.drop (i + 1) := List.drop_eq_getElem_cons hlt
      have hne : ¬ (wAt s i).s = [] := by
        show ¬ s.drop i = []
        rw [hd]
        exact List.cons_ne_nil _ _
      have hn : (nextT (s.drop i)).2.1 ≤ (s.drop i).length := by rw [hd]; exact nextT_le _ _
      rw [List.length_drop] at hn
      by_cases h0 : tokE (s.drop i) acc.length = 0
      · obtain ⟨h1, h2⟩ := tokE_zero h0
        have hpos : 0 < (nextT (s.drop i)).2.1 := by rw [hd] at h1 ⊢; exact nextT_pos _ _ h1
        have hsk := sk_le false (s.drop (i + (nextT (s.drop i)).2.1))
        rw [List.length_drop] at hsk
        refine ((rk_round s hs i hlt acc ha).and (rk_loop s hs f (acc ++ [(wAt s i).tok]) (i + (nextT (s.drop i)).2.1 + sk false (s.drop (i + (nextT (s.drop i)).2.1))) (by omega) (by simp; omega) (by omega))).imp fun k ⟨q1, q2⟩ gl ro n S hn' hS => ?_
        obtain ⟨n, rfl⟩ : ∃ m, n = m + 1 := ⟨n - 1, by omega⟩
        have r1 := (q1 k gl ro).2 h0
        rw [← hS] at r1
        obtain ⟨S', hS', e⟩ := loop_on r1
        rw [e, q2 gl ro n S' (by omega) hS']
        congr 2
        rw [toks, if_neg hne, show (wAt s i).s = s.drop i from rfl, if_pos h0, wAt_go]
      · refine (rk_round s hs i hlt acc ha).imp fun k q1 gl ro n S hn' hS => ?_
        obtain ⟨n, rfl⟩ : ∃ m, n = m + 1 := ⟨n - 1, by omega⟩
        have e : rkR s gl ro (toks (f + 1) acc (wAt s i)) = (.ret, st 64 [(2, .c (.w (.full []))), (3, .c (.w (.box 3 0))), (4, V.int .i64 (tokE (s.drop i) acc.length))] [(3, [.d (.int .i64 (wAt s i).ln), .d (.int .i64 (wAt s i).cl)])] [] gl ro) := by
          rw [toks, if_neg hne, show (wAt s i).s = s.drop i from rfl, if_neg h0, rkR, if_neg h0]
        rw [e]
        refine loop_ret ?_
        rw [hS]
        exact (q1 k gl ro).1 h0
theorem toks_end (s : List UInt8) : ∀ (f : Nat) (acc : List Tk) (i : Nat), i ≤ s.length → s.length - i < f → (toks f acc (wAt s i)).2.2 = 0 → (toks f acc (wAt s i)).2.1 = wAt s s.length
  | 0, acc, i, _, hf, _ => absurd hf (by omega)
  | f + 1, acc, i, hi, hf, h => by
    by_cases he : i = s.length
    · subst he
      rw [toks, if_pos (wAt_end s)]
    · have hlt : i < s.length := by omega
      have hd : s.drop i = s[i] :: s.drop (i + 1) := List.drop_eq_getElem_cons hlt
      have hne : ¬ (wAt s i).s = [] := by
        show ¬ s.drop i = []
        rw [hd]
        exact List.cons_ne_nil _ _
      have hn : (nextT (s.drop i)).2.1 ≤ (s.drop i).length := by rw [hd]; exact nextT_le _ _
      rw [List.length_drop] at hn
      rw [toks, if_neg hne, show (wAt s i).s = s.drop i from rfl] at h ⊢
      by_cases h0 : tokE (s.drop i) acc.length = 0
      · obtain ⟨h1, h2⟩ := tokE_zero h0
        have hpos : 0 < (nextT (s.drop i)).2.1 := by rw [hd] at h1 ⊢; exact nextT_pos _ _ h1
        have hsk := sk_le false (s.drop (i + (nextT (s.drop i)).2.1))
        rw [List.length_drop] at hsk
        rw [if_pos h0, wAt_go] at h ⊢
        exact toks_end s f _ _ (by omega) (by omega) h
      · rw [if_neg h0] at h
        exact absurd h h0
theorem rTokens_ev (s : List UInt8) (hs : s.length ≤ 9223372036854775807) : Gives 67 [T s] (tokV s) := by
  unfold tokV
  by_cases hl : 65536 < s.length
  · rw [if_pos hl]
    have hl' : (65536 : Int) < s.length := by omega
    refine .intro Tryz.func67 (by kernel_rfl) (.of fun k ro gl => ?_)
    simp -implicitDefEqProofs [Tryz.f67, hl']
  · rw [if_neg hl]
    have hl' : ¬ (65536 : Int) < s.length := by omega
    have ew : (⟨s, 1, 1⟩ : Wk).rest (s.length + 1) = wAt s (sk false s) := by
      have := wAt_rest s 0 (f := s.length + 1) (by omega)
      simpa [wAt, adv] using this
    rw [ew]
    have hsk := sk_le false s
    have r0 := Gap_ev s (by omega) 0 (by omega)
    have r0' : Gives 120 [T s, .w (.d (.int .i64 0))] (V.int .i64 (sk false s)) := by simpa using r0
    have lp := rk_loop s (by omega) (s.length + 1) [] (sk false s) hsk (by simp) (by omega)
    have hx := toks_len (s.length + 1) [] (wAt s (sk false s)) (by simp)
    have hend := toks_end s (s.length + 1) [] (sk false s) hsk (by omega)
    have pe := Pos_ev s (by omega) s.length (Nat.le_refl _)
    have ep : ∀ w : Wk, w = wAt s s.length → w.ln = (adv (s.take s.length) 1 1).1 ∧ w.cl = (adv (s.take s.length) 1 1).2 := fun w h => by rw [h]; exact ⟨rfl, rfl⟩
    generalize toks (s.length + 1) [] (wAt s (sk false s)) = x at lp hx hend ⊢
    obtain ⟨acc, w2, e⟩ := x
    simp only at hx hend ⊢
    refine .intro Tryz.func67 (by kernel_rfl) (r0'.and (lp.and (pe.and (Evt.ge (s.length + 1)))) |>.imp fun k ⟨h1, h2, h3, hk⟩ ro gl => ?_)
    have tail : ∀ S : St, S.hav [0, 3, 5, 6, 52] = rkS s [] (sk false s) gl gl.length → loopC Tryz.prog cf 67 (ev k) k (bodyOf Tryz.f67 0) S = _ := fun S hS => h2 gl gl.length k S hk hS
    simp -implicitDefEqProofs [Tryz.f67, hl', h1]
    refine bind_go (tail _ ?_) ?_
    · simp [rkS]
    · unfold rkR
      by_cases he : e = 0
      · obtain ⟨p1, p2⟩ := ep w2 (hend he)
        rw [← p1, ← p2] at h3
        subst he
        simp only [if_true]
        rcases acc with _ | ⟨a, q⟩
        · simp -implicitDefEqProofs [rkS, h3, Tk.c]
        · have h5 : (q.length + 1 + 1) * 40 ≤ 140737488355328 := by simp at hx; omega
          have h6 : q.length ≤ 9223372036854775805 := by simp at hx; omega
          simp -implicitDefEqProofs [rkS, h3, Tk.c, h5, h6]
      · simp only [he, if_false]
        simp -implicitDefEqProofs []
end Go.Proofs.YtckonoejmjblfaaGreatDoor.Ev
