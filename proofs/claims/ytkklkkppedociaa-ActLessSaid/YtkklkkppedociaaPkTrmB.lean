/- Layer 5: terms that are the same. -/
import Derived.Test.YtkklkkppedociaaPkTrmA
import Derived.Test.YtkklkkppedociaaPkNam
set_option linter.unusedVariables false
set_option linter.unusedSimpArgs false
set_option maxRecDepth 100000
set_option maxHeartbeats 4000000
namespace Go.Proofs.Ytkklkkppedociaa.Ev
open Go Go.RowKit

theorem eg_term : Try.prog.eqGuardType Try.prog.depth 80 = false := by kernel_rfl
theorem sh_term : Try.prog.stoodInHeld 80 = false := by kernel_rfl
theorem ev_term (a b : Int) (s : List UInt8) (a' b' : Int) (s' : List UInt8) : eqVal Try.prog 8 80 [.int .i64 a, .int .i64 b, .str s] [.int .i64 a', .int .i64 b', .str s']
    = some (decide (a = a') && (decide (b = b') && decide (s = s'))) := by
  simp [eqVal, sh_term]
  by_cases h : a = a' <;> by_cases h1 : b = b' <;> by_cases h2 : s = s' <;> simp [h, h1, h2]
attribute [simp high] ev_term
attribute [simp] eg_term
def saS (a b : List Tm) (i : Nat) (gl : List (List W)) (ro : Nat) : St := st 26 [(0, .c (L (a.map Tm.c))), (1, .c (L (b.map Tm.c))), (5, V.int .i64 i)] [] [] gl ro
end Go.Proofs.Ytkklkkppedociaa.Ev

/- Layer 5: which terms may be. -/
set_option linter.unusedVariables false
set_option linter.unusedSimpArgs false
set_option maxRecDepth 100000
set_option maxHeartbeats 4000000
namespace Go.Proofs.Ytkklkkppedociaa.Ev
open Go Go.RowKit

def Tm.w (t : Tm) : C := .agg [.d (.int .i64 t.op), .d (.int .i64 t.n), .d (.str t.name)]
def Tm.may (t : Tm) : Bool :=
  if t.op = 1 then decide (0 ≤ t.n) && (decide (t.n ≤ 1000000) && decide (t.name = []))
  else if t.op = 2 ∨ t.op = 11 then decide (t.n = 0) && isName t.name
  else decide (t.n = 0) && decide (t.name = [])
theorem may_ev (t : Tm) (hs : t.name.length ≤ 9223372036854775807) : Gives 101 [t.w] (V.bool t.may) := by
  refine .intro Try.func101 (by kernel_rfl) ((nIs_all t.name hs).imp fun k h ro gl => ?_)
  obtain ⟨o, n, s⟩ := t
  simp only at h
  unfold Tm.may
  by_cases h1 : o = 1
  · subst h1
    by_cases n0 : 0 ≤ n
    · by_cases n1 : n ≤ 1000000
      · simp -implicitDefEqProofs [Try.f101, Tm.w, n0, n1]
      · simp -implicitDefEqProofs [Try.f101, Tm.w, n0, n1]
    · simp -implicitDefEqProofs [Try.f101, Tm.w, n0]
  · by_cases h2 : o = 2
    · subst h2
      by_cases n0 : n = 0
      · simp -implicitDefEqProofs [Try.f101, Tm.w, n0, h]
      · simp -implicitDefEqProofs [Try.f101, Tm.w, n0, h]
    · by_cases h3 : o = 11
      · subst h3
        by_cases n0 : n = 0
        · simp -implicitDefEqProofs [Try.f101, Tm.w, n0, h]
        · simp -implicitDefEqProofs [Try.f101, Tm.w, n0, h]
      · by_cases n0 : n = 0
        · by_cases s0 : s = []
          · simp -implicitDefEqProofs [Try.f101, Tm.w, h1, h2, h3, n0, s0]
          · simp -implicitDefEqProofs [Try.f101, Tm.w, h1, h2, h3, n0, s0]
        · simp -implicitDefEqProofs [Try.f101, Tm.w, h1, h2, h3, n0]
end Go.Proofs.Ytkklkkppedociaa.Ev

/- Layer 5: where the expressions below a term begin. -/
set_option linter.unusedVariables false
set_option linter.unusedSimpArgs false
set_option maxRecDepth 100000
set_option maxHeartbeats 4000000
namespace Go.Proofs.Ytkklkkppedociaa.Ev
open Go Go.RowKit

abbrev iD (x : Nat) : List D := [.int .i64 x]
/-- So many expressions, from a place on: where each begins. -/
def bel (l : List Tm) : Nat → Nat → List Nat
  | 0, _ => []
  | a + 1, next => next :: bel l a (next + (eat 1 (l.drop next)).getD 0)
def beS (l : List Tm) (i : Nat) (acc : List Nat) (next : Nat) (gl : List (List W)) (ro : Nat) : St :=
  st 30 [(0, .c (L (l.map Tm.c))), (1, V.int .i64 i), (5, if acc = [] then .c (.w (.full [])) else .c (.w (.app 28 (acc.map iD)))), (6, V.int .i64 next), (28, if acc = [] then V.un else .c (.w (.app 28 (acc.map iD))))]
    [] (if acc = [] then [] else [(28, ⟨acc.length, 3, 1⟩)]) gl ro
theorem be_round (l : List Tm) (hl : l.length < 2305843009213693952) (i : Nat) (t : Tm) (ht : l[i]? = some t) (acc : List Nat) (next m : Nat) (hn : next ≤ l.length) (ha : (acc.length : Int) < arity t.op) (hm : eat 1 (l.drop next) = some m) : Evt fun k => ∀ N gl ro,
    (evC Try.prog cf 103 (ev k) N (bodyOf Try.f103 0) (beS l i acc next gl ro)).map (hv [0, 1, 5, 6, 28]) = some (.normal, beS l i (acc ++ [next]) (next + m) gl ro) := by
  refine (Arity_ev.and (End_ev l hl next (by omega))).imp fun k ⟨h1, h2⟩ N gl ro => ?_
  have h1 := h1 t.op
  have hlt : i < l.length := (List.getElem?_eq_some_iff.1 ht).1
  have hme : l[i] = t := (List.getElem?_eq_some_iff.1 ht).2
  have hlt' : (i : Int) < l.length := by omega
  obtain ⟨a1, a2⟩ := arity_le t.op
  unfold endV at h2
  rw [hm] at h2
  rcases acc with _ | ⟨x, q⟩
  · have ha' : (0 : Int) < arity t.op := by simpa using ha
    simp -implicitDefEqProofs [beS, bodyOf, loopsOf, hv, Try.f103, hlt, hlt', hme, Tm.c, h1, h2, ha']
  · have ha' : (q.length : Int) + 1 < arity t.op := by simpa using ha
    have h5 : (q.length + 1 + 1) * 8 ≤ 140737488355328 := by omega
    have h6 : q.length ≤ 9223372036854775805 := by omega
    simp -implicitDefEqProofs [beS, bodyOf, loopsOf, hv, Try.f103, hlt, hlt', hme, Tm.c, h1, h2, ha', h5, h6]
theorem be_loop (l : List Tm) (hl : l.length < 2305843009213693952) (i : Nat) (t : Tm) (ht : l[i]? = some t) : ∀ (a : Nat) (acc : List Nat) (next M : Nat), (acc.length : Int) + a = arity t.op → next ≤ l.length → eat a (l.drop next) = some M → Evt fun k => ∀ gl ro n S, a < n → S.hav [0, 1, 5, 6, 28] = beS l i acc next gl ro →
    loopA (evC Try.prog cf 103 (ev k) k (bodyOf Try.f103 0)) [0, 1, 5, 6, 28] [] n S = some (.exit 0, beS l i (acc ++ bel l a next) (next + M) gl ro)
  | 0, acc, next, M, ha, hn, hM => by
    refine Arity_ev.imp fun k h1 gl ro n S hn' hS => ?_
    have h1 := h1 t.op
    have hlt : i < l.length := (List.getElem?_eq_some_iff.1 ht).1
    have hme : l[i] = t := (List.getElem?_eq_some_iff.1 ht).2
    have hlt' : (i : Int) < l.length := by omega
    have hM0 : M = 0 := by
      rw [show eat 0 (l.drop next) = some 0 by cases l.drop next <;> rfl] at hM
      cases hM
      rfl
    subst hM0
    obtain ⟨n, rfl⟩ : ∃ m, n = m + 1 := ⟨n - 1, by omega⟩
    refine loop_exit ?_
    rw [hS, bel, List.append_nil, Nat.add_zero]
    rcases acc with _ | ⟨x, q⟩
    · have ha' : ¬ (0 : Int) < arity t.op := by simp at ha; omega
      simp -implicitDefEqProofs [beS, bodyOf, loopsOf, hv, Try.f103, hlt, hlt', hme, Tm.c, h1, ha']
    · have ha' : ¬ (q.length : Int) + 1 < arity t.op := by simp at ha; omega
      simp -implicitDefEqProofs [beS, bodyOf, loopsOf, hv, Try.f103, hlt, hlt', hme, Tm.c, h1, ha']
  | a + 1, acc, next, M, ha, hn, hM => by
    rw [Nat.add_comm a 1, eat_add, Option.bind_eq_some_iff] at hM
    obtain ⟨m, hm, hM⟩ := hM
    rw [Option.map_eq_some_iff, List.drop_drop] at hM
    obtain ⟨M', hM', rfl⟩ := hM
    have hle := eat_le _ _ _ hm
    rw [List.length_drop] at hle
    refine ((be_round l hl i t ht acc next m hn (by omega) hm).and (be_loop l hl i t ht a (acc ++ [next]) (next + m) M' (by simp; omega) (by omega) hM')).imp fun k ⟨q1, q2⟩ gl ro n S hn' hS => ?_
    obtain ⟨n, rfl⟩ : ∃ m, n = m + 1 := ⟨n - 1, by omega⟩
    have r1 := q1 k gl ro
    rw [← hS] at r1
    obtain ⟨S', hS', e⟩ := loop_on r1
    rw [e, q2 gl ro n S' (by omega) hS', bel, hm]
    simp only [Option.getD_some, List.append_assoc, List.singleton_append]
    rw [show next + m + M' = next + (M' + m) by omega]
theorem Below_ev (l : List Tm) (hl : l.length < 2305843009213693952) (i : Nat) (t : Tm) (ht : l[i]? = some t) (hE : 0 ≤ endV l i) : Gives 103 [L (l.map Tm.c), I i] (.c (L ((bel l (arity t.op).toNat (i + 1)).map iD))) := by
  have hlt : i < l.length := (List.getElem?_eq_some_iff.1 ht).1
  have hme : l[i] = t := (List.getElem?_eq_some_iff.1 ht).2
  have hd : l.drop i = t :: l.drop (i + 1) := by rw [List.drop_eq_getElem_cons hlt, hme]
  have w : IntKind.i64.wrap ((i : Int) + 1) = (i : Int) + 1 := i64w _ (by omega)
  obtain ⟨K, hK⟩ : ∃ K, eat 1 (l.drop i) = some K := by
    unfold endV at hE
    cases h : eat 1 (l.drop i) with
    | some K => exact ⟨K, rfl⟩
    | none => rw [h] at hE; simp at hE
  have hK' := hK
  rw [hd, eat] at hK'
  split at hK'
  · cases hK'
  · rename_i ha
    rw [Nat.zero_add, Option.map_eq_some_iff] at hK'
    obtain ⟨M, hM, _⟩ := hK'
    have lp := be_loop l hl i t ht (arity t.op).toNat [] (i + 1) M (by simp; omega) (by omega) hM
    refine .intro Try.func103 (by kernel_rfl) ((End_ev l hl i (by omega)).and (lp.and (Evt.ge 5)) |>.imp fun k ⟨h1, h2, hk⟩ ro gl => ?_)
    obtain ⟨a1, a2⟩ := arity_le t.op
    have hng : ¬ endV l i < 0 := by omega
    have tail : ∀ S : St, S.hav [0, 1, 5, 6, 28] = beS l i [] (i + 1) gl gl.length → loopC Try.prog cf 103 (ev k) k (bodyOf Try.f103 0) S = _ := fun S hS => h2 gl gl.length k S (by omega) hS
    simp -implicitDefEqProofs [Try.f103, h1, hng, w]
    refine bind_go (tail _ ?_) ?_
    · simp [beS]
    · simp only [List.nil_append]
      cases hb : bel l (arity t.op).toNat (i + 1) with
      | nil => simp [beS]
      | cons x q => simp [beS]
end Go.Proofs.Ytkklkkppedociaa.Ev

/- Layer 5: where the expressions below a term begin, as the document finds it. -/
set_option linter.unusedVariables false
set_option linter.unusedSimpArgs false
set_option maxRecDepth 100000
set_option maxHeartbeats 4000000
namespace Go.Proofs.Ytkklkkppedociaa.Ev
open Go Go.RowKit

def rbS (l : List Tm) (i : Nat) (acc : List Nat) (next : Nat) (gl : List (List W)) (ro : Nat) : St :=
  st 29 [(0, .c (L (l.map Tm.c))), (1, V.int .i64 i), (5, if acc = [] then .c (.w (.full [])) else .c (.w (.app 24 (acc.map iD)))), (6, V.int .i64 next), (7, V.int .i64 acc.length), (24, if acc = [] then V.un else .c (.w (.app 24 (acc.map iD))))]
    [] (if acc = [] then [] else [(24, ⟨acc.length, 3, 1⟩)]) gl ro
end Go.Proofs.Ytkklkkppedociaa.Ev
