/- Layer 5: terms that are the same. -/
import Derived.Test.YtckonoejmjblfaaGreatDoorPkTrmA
import Derived.Test.YtckonoejmjblfaaGreatDoorPkNam
set_option linter.unusedVariables false
set_option linter.unusedSimpArgs false
set_option maxRecDepth 100000
set_option maxHeartbeats 4000000
namespace Go.Proofs.YtckonoejmjblfaaGreatDoor.Ev
open Go Go.RowKit

theorem eg_term : Tryz.prog.eqGuardType Tryz.prog.depth 44 = false := by kernel_rfl
theorem sh_term : Tryz.prog.stoodInHeld 44 = false := by kernel_rfl
theorem ev_term (a b : Int) (s : List UInt8) (a' b' : Int) (s' : List UInt8) : eqVal Tryz.prog 8 44 [.int .i64 a, .int .i64 b, .str s] [.int .i64 a', .int .i64 b', .str s']
    = some (decide (a = a') && (decide (b = b') && decide (s = s'))) := by
  simp [eqVal, sh_term]
  by_cases h : a = a' <;> by_cases h1 : b = b' <;> by_cases h2 : s = s' <;> simp [h, h1, h2]
attribute [simp high] ev_term
attribute [simp] eg_term
def saS (a b : List Tm) (i : Nat) (gl : List (List W)) (ro : Nat) : St := st 26 [(0, .c (L (a.map Tm.c))), (1, .c (L (b.map Tm.c))), (5, V.int .i64 i)] [] [] gl ro
theorem sa_loop (call : Caller) (N : Nat) (gl : List (List W)) (ro : Nat) (a b : List Tm) (hl : a.length < 2305843009213693952) (he : a.length = b.length) (n : Nat) (hn : a.length < n) (S : St) (hS : S.hav [0, 1, 5] = saS a b 0 gl ro) :
    loopA (evC Tryz.prog cf 84 call N (bodyOf Tryz.f84 0)) [0, 1, 5] [4] n S = some (if a = b then (.exit 0, saS a b a.length gl ro) else (.ret, st 26 [(4, V.bool false)] [] [] gl ro)) := by
  refine loop_by (keep := [0, 1, 5]) (res := [4]) (fun i : Nat => saS a b i gl ro) (fun i => i ≤ a.length) (fun i => a.length - i) (fun i => if a.drop i = b.drop i then (.exit 0, saS a b a.length gl ro) else (.ret, st 26 [(4, V.bool false)] [] [] gl ro)) ?_ n 0 S (Nat.zero_le _) (by omega) hS
  intro i hi
  by_cases h : i = a.length
  · subst h
    refine .inr (.inl ⟨0, saS a b a.length gl ro, ?_, ?_⟩)
    · simp -implicitDefEqProofs [saS, bodyOf, loopsOf, hv, Tryz.f84]
    · rw [List.drop_of_length_le (Nat.le_refl _), List.drop_of_length_le (by omega), if_pos rfl]
  · have h1 : i < a.length := by omega
    have h2 : i < b.length := by omega
    have h1' : (i : Int) < a.length := by omega
    have h2' : (i : Int) < b.length := by omega
    have da : a.drop i = a[i] :: a.drop (i + 1) := List.drop_eq_getElem_cons h1
    have db : b.drop i = b[i] :: b.drop (i + 1) := List.drop_eq_getElem_cons h2
    have ca : a[i]? = some a[i] := List.getElem?_eq_getElem h1
    have cb : b[i]? = some b[i] := List.getElem?_eq_getElem h2
    generalize a[i] = x at da ca
    generalize b[i] = y at db cb
    have w : IntKind.i64.wrap ((i : Int) + 1) = (i : Int) + 1 := i64w _ (by omega)
    have hx : a[i] = x := (List.getElem?_eq_some_iff.1 ca).2
    have hy : b[i] = y := (List.getElem?_eq_some_iff.1 cb).2
    obtain ⟨o, m, s⟩ := x
    obtain ⟨o', m', s'⟩ := y
    by_cases hxy : o = o' ∧ m = m' ∧ s = s'
    · obtain ⟨rfl, rfl, rfl⟩ := hxy
      refine .inl ⟨i + 1, by omega, by omega, ?_, by rw [da, db]; simp⟩
      simp -implicitDefEqProofs [saS, bodyOf, loopsOf, hv, Tryz.f84, h1, h2, h1', h2', hx, hy, Tm.c, w]
    · refine .inr (.inr ⟨st 26 [(4, V.bool false)] [] [] gl ro, ?_, by rw [da, db, if_neg (by simp; intro q1 q2 q3; exact absurd ⟨q1, q2, q3⟩ hxy)]⟩)
      have e : (decide (o = o') && (decide (m = m') && decide (s = s'))) = false := by
        simp only [Bool.and_eq_false_imp, decide_eq_true_eq, decide_eq_false_iff_not]
        intro q1 q2 q3
        exact hxy ⟨q1, q2, q3⟩
      by_cases q1 : o = o'
      · by_cases q2 : m = m'
        · have q3 : ¬ s = s' := fun q3 => hxy ⟨q1, q2, q3⟩
          simp -implicitDefEqProofs [saS, bodyOf, loopsOf, hv, Tryz.f84, h1, h2, h1', h2', hx, hy, Tm.c, q1, q2, q3]
        · simp -implicitDefEqProofs [saS, bodyOf, loopsOf, hv, Tryz.f84, h1, h2, h1', h2', hx, hy, Tm.c, q1, q2]
      · simp -implicitDefEqProofs [saS, bodyOf, loopsOf, hv, Tryz.f84, h1, h2, h1', h2', hx, hy, Tm.c, q1]
theorem Same_ev (a b : List Tm) (hl : a.length < 2305843009213693952) (hl' : b.length < 2305843009213693952) : Gives 84 [L (a.map Tm.c), L (b.map Tm.c)] (V.bool (decide (a = b))) := by
  refine .intro Tryz.func84 (by kernel_rfl) ((Evt.ge (a.length + 1)).imp fun k hk ro gl => ?_)
  by_cases he : a.length = b.length
  · have he' : (a.length : Int) = b.length := by omega
    have tail : ∀ S : St, S.hav [0, 1, 5] = saS a b 0 gl gl.length → loopC Tryz.prog cf 84 (ev k) k (bodyOf Tryz.f84 0) S = _ := fun S hS => sa_loop (ev k) k gl gl.length a b hl he k (by omega) S hS
    simp -implicitDefEqProofs [Tryz.f84, he, he']
    refine bind_go (tail _ ?_) ?_
    · simp [saS]
    · by_cases hab : a = b
      · simp [hab, saS]
      · simp [hab]
  · have he' : ¬ (a.length : Int) = b.length := by omega
    have hab : ¬ a = b := fun e => he (by rw [e])
    simp -implicitDefEqProofs [Tryz.f84, he, he', hab]
end Go.Proofs.YtckonoejmjblfaaGreatDoor.Ev

/- Layer 5: which terms may be. -/
set_option linter.unusedVariables false
set_option linter.unusedSimpArgs false
set_option maxRecDepth 100000
set_option maxHeartbeats 4000000
namespace Go.Proofs.YtckonoejmjblfaaGreatDoor.Ev
open Go Go.RowKit

def Tm.w (t : Tm) : C := .agg [.d (.int .i64 t.op), .d (.int .i64 t.n), .d (.str t.name)]
def Tm.may (t : Tm) : Bool :=
  if t.op = 1 then decide (0 ≤ t.n) && (decide (t.n ≤ 1000000) && decide (t.name = []))
  else if t.op = 2 ∨ t.op = 11 then decide (t.n = 0) && isName t.name
  else decide (t.n = 0) && decide (t.name = [])
theorem may_ev (t : Tm) (hs : t.name.length ≤ 9223372036854775807) : Gives 191 [t.w] (V.bool t.may) := by
  refine .intro Tryz.func191 (by kernel_rfl) ((nIs_all t.name hs).imp fun k h ro gl => ?_)
  obtain ⟨o, n, s⟩ := t
  simp only at h
  unfold Tm.may
  by_cases h1 : o = 1
  · subst h1
    by_cases n0 : 0 ≤ n
    · by_cases n1 : n ≤ 1000000
      · simp -implicitDefEqProofs [Tryz.f191, Tm.w, n0, n1]
      · simp -implicitDefEqProofs [Tryz.f191, Tm.w, n0, n1]
    · simp -implicitDefEqProofs [Tryz.f191, Tm.w, n0]
  · by_cases h2 : o = 2
    · subst h2
      by_cases n0 : n = 0
      · simp -implicitDefEqProofs [Tryz.f191, Tm.w, n0, h]
      · simp -implicitDefEqProofs [Tryz.f191, Tm.w, n0, h]
    · by_cases h3 : o = 11
      · subst h3
        by_cases n0 : n = 0
        · simp -implicitDefEqProofs [Tryz.f191, Tm.w, n0, h]
        · simp -implicitDefEqProofs [Tryz.f191, Tm.w, n0, h]
      · by_cases n0 : n = 0
        · by_cases s0 : s = []
          · simp -implicitDefEqProofs [Tryz.f191, Tm.w, h1, h2, h3, n0, s0]
          · simp -implicitDefEqProofs [Tryz.f191, Tm.w, h1, h2, h3, n0, s0]
        · simp -implicitDefEqProofs [Tryz.f191, Tm.w, h1, h2, h3, n0]
theorem rMay_ev (t : Tm) (hs : t.name.length ≤ 9223372036854775807) : Gives 156 [t.w] (V.bool (if t.op < 1 ∨ 20 < t.op then false else t.may)) := by
  refine .intro Tryz.func156 (by kernel_rfl) ((rIs_all t.name hs).imp fun k h ro gl => ?_)
  obtain ⟨o, n, s⟩ := t
  simp only at h
  unfold Tm.may
  have hz : ((s.length : Int) = 0) = (s = []) := propext ⟨fun e => List.length_eq_zero_iff.1 (by omega), fun e => by rw [e]; rfl⟩
  by_cases c1 : o < 1
  · simp -implicitDefEqProofs [Tryz.f156, Tm.w, c1]
  · by_cases c2 : 20 < o
    · simp -implicitDefEqProofs [Tryz.f156, Tm.w, c1, c2]
    · have hif : ¬ (o < 1 ∨ 20 < o) := by omega
      by_cases h1 : o = 1
      · subst h1
        by_cases n0 : n < 0
        · have n0' : ¬ 0 ≤ n := by omega
          simp -implicitDefEqProofs [Tryz.f156, Tm.w, n0, n0']
        · have n0' : 0 ≤ n := by omega
          by_cases n1 : 1000000 < n
          · have n1' : ¬ n ≤ 1000000 := by omega
            simp -implicitDefEqProofs [Tryz.f156, Tm.w, n0, n0', n1, n1']
          · have n1' : n ≤ 1000000 := by omega
            simp -implicitDefEqProofs [Tryz.f156, Tm.w, n0, n0', n1, n1', hz]
      · by_cases n0 : n = 0
        · subst n0
          by_cases h2 : o = 2
          · subst h2
            simp -implicitDefEqProofs [Tryz.f156, Tm.w, h]
          · by_cases h3 : o = 11
            · subst h3
              simp -implicitDefEqProofs [Tryz.f156, Tm.w, h]
            · simp -implicitDefEqProofs [Tryz.f156, Tm.w, c1, c2, h1, h2, h3, hz]
        · simp -implicitDefEqProofs [Tryz.f156, Tm.w, c1, c2, h1, n0]
end Go.Proofs.YtckonoejmjblfaaGreatDoor.Ev

/- Layer 5: where the expressions below a term begin. -/
set_option linter.unusedVariables false
set_option linter.unusedSimpArgs false
set_option maxRecDepth 100000
set_option maxHeartbeats 4000000
namespace Go.Proofs.YtckonoejmjblfaaGreatDoor.Ev
open Go Go.RowKit

abbrev iD (x : Nat) : List D := [.int .i64 x]
/-- So many expressions, from a place on: where each begins. -/
def bel (l : List Tm) : Nat → Nat → List Nat
  | 0, _ => []
  | a + 1, next => next :: bel l a (next + (eat 1 (l.drop next)).getD 0)
def beS (l : List Tm) (i : Nat) (acc : List Nat) (next : Nat) (gl : List (List W)) (ro : Nat) : St :=
  st 30 [(0, .c (L (l.map Tm.c))), (1, V.int .i64 i), (5, if acc = [] then .c (.w (.full [])) else .c (.w (.app 28 (acc.map iD)))), (6, V.int .i64 next), (28, if acc = [] then V.un else .c (.w (.app 28 (acc.map iD))))]
    [] (if acc = [] then [] else [(28, ⟨acc.length, 3, 1⟩)]) gl ro
theorem be_round (l : List Tm) (hl : l.length < 2305843009213693952) (i : Nat) (t : Tm) (ht : l[i]? = some t) (acc : List Nat) (next m : Nat) (hn : next ≤ l.length) (ha : (acc.length : Int) < arity t.op) (hm : eat 1 (l.drop next) = some m) : Evt fun k => ∀ N gl ro,
    (evC Tryz.prog cf 193 (ev k) N (bodyOf Tryz.f193 0) (beS l i acc next gl ro)).map (hv [0, 1, 5, 6, 28]) = some (.normal, beS l i (acc ++ [next]) (next + m) gl ro) := by
  refine (Arity_ev.and (End_ev l hl next (by omega))).imp fun k ⟨h1, h2⟩ N gl ro => ?_
  have h1 := h1 t.op
  have hlt : i < l.length := (List.getElem?_eq_some_iff.1 ht).1
  have hme : l[i] = t := (List.getElem?_eq_some_iff.1 ht).2
  have hlt' : (i : Int) < l.length := by omega
  obtain ⟨a1, a2⟩ := arity_le t.op
  unfold endV at h2
  rw [hm] at h2
  rcases acc with _ | ⟨x, q⟩
  · have ha' : (0 : Int) < arity t.op := by simpa using ha
    simp -implicitDefEqProofs [beS, bodyOf, loopsOf, hv, Tryz.f193, hlt, hlt', hme, Tm.c, h1, h2, ha']
  · have ha' : (q.length : Int) + 1 < arity t.op := by simpa using ha
    have h5 : (q.length + 1 + 1) * 8 ≤ 140737488355328 := by omega
    have h6 : q.length ≤ 9223372036854775805 := by omega
    simp -implicitDefEqProofs [beS, bodyOf, loopsOf, hv, Tryz.f193, hlt, hlt', hme, Tm.c, h1, h2, ha', h5, h6]
theorem be_loop (l : List Tm) (hl : l.length < 2305843009213693952) (i : Nat) (t : Tm) (ht : l[i]? = some t) : ∀ (a : Nat) (acc : List Nat) (next M : Nat), (acc.length : Int) + a = arity t.op → next ≤ l.length → eat a (l.drop next) = some M → Evt fun k => ∀ gl ro n S, a < n → S.hav [0, 1, 5, 6, 28] = beS l i acc next gl ro →
    loopA (evC Tryz.prog cf 193 (ev k) k (bodyOf Tryz.f193 0)) [0, 1, 5, 6, 28] [] n S = some (.exit 0, beS l i (acc ++ bel l a next) (next + M) gl ro)
  | 0, acc, next, M, ha, hn, hM => by
    refine Arity_ev.imp fun k h1 gl ro n S hn' hS => ?_
    have h1 := h1 t.op
    have hlt : i < l.length := (List.getElem?_eq_some_iff.1 ht).1
    have hme : l[i] = t := (List.getElem?_eq_some_iff.1 ht).2
    have hlt' : (i : Int) < l.length := by omega
    have hM0 : M = 0 := by
      rw [show eat 0 (l.drop next) = some 0 by cases l.drop next <;> rfl] at hM
      cases hM
      rfl
    subst hM0
    obtain ⟨n, rfl⟩ : ∃ m, n = m + 1 := ⟨n - 1, by omega⟩
    refine loop_exit ?_
    rw [hS, bel, List.append_nil, Nat.add_zero]
    rcases acc with _ | ⟨x, q⟩
    · have ha' : ¬ (0 : Int) < arity t.op := by simp at ha; omega
      simp -implicitDefEqProofs [beS, bodyOf, loopsOf, hv, Tryz.f193, hlt, hlt', hme, Tm.c, h1, ha']
    · have ha' : ¬ (q.length : Int) + 1 < arity t.op := by simp at ha; omega
      simp -implicitDefEqProofs [beS, bodyOf, loopsOf, hv, Tryz.f193, hlt, hlt', hme, Tm.c, h1, ha']
  | a + 1, acc, next, M, ha, hn, hM => by
    rw [Nat.add_comm a 1, eat_add, Option.bind_eq_some_iff] at hM
    obtain ⟨m, hm, hM⟩ := hM
    rw [Option.map_eq_some_iff, List.drop_drop] at hM
    obtain ⟨M', hM', rfl⟩ := hM
    have hle := eat_le _ _ _ hm
    rw [List.length_drop] at hle
    refine ((be_round l hl i t ht acc next m hn (by omega) hm).and (be_loop l hl i t ht a (acc ++ [next]) (next + m) M' (by simp; omega) (by omega) hM')).imp fun k ⟨q1, q2⟩ gl ro n S hn' hS => ?_
    obtain ⟨n, rfl⟩ : ∃ m, n = m + 1 := ⟨n - 1, by omega⟩
    have r1 := q1 k gl ro
    rw [← hS] at r1
    obtain ⟨S', hS', e⟩ := loop_on r1
    rw [e, q2 gl ro n S' (by omega) hS', bel, hm]
    simp only [Option.getD_some, List.append_assoc, List.singleton_append]
    rw [show next + m + M' = next + (M' + m) by omega]
theorem Below_ev (l : List Tm) (hl : l.length < 2305843009213693952) (i : Nat) (t : Tm) (ht : l[i]? = some t) (hE : 0 ≤ endV l i) : Gives 193 [L (l.map Tm.c), I i] (.c (L ((bel l (arity t.op).toNat (i + 1)).map iD))) := by
  have hlt : i < l.length := (List.getElem?_eq_some_iff.1 ht).1
  have hme : l[i] = t := (List.getElem?_eq_some_iff.1 ht).2
  have hd : l.drop i = t :: l.drop (i + 1) := by rw [List.drop_eq_getElem_cons hlt, hme]
  have w : IntKind.i64.wrap ((i : Int) + 1) = (i : Int) + 1 := i64w _ (by omega)
  obtain ⟨K, hK⟩ : ∃ K, eat 1 (l.drop i) = some K := by
    unfold endV at hE
    cases h : eat 1 (l.drop i) with
    | some K => exact ⟨K, rfl⟩
    | none => rw [h] at hE; simp at hE
  have hK' := hK
  rw [hd, eat] at hK'
  split at hK'
  · cases hK'
  · rename_i ha
    rw [Nat.zero_add, Option.map_eq_some_iff] at hK'
    obtain ⟨M, hM, _⟩ := hK'
    have lp := be_loop l hl i t ht (arity t.op).toNat [] (i + 1) M (by simp; omega) (by omega) hM
    refine .intro Tryz.func193 (by kernel_rfl) ((End_ev l hl i (by omega)).and (lp.and (Evt.ge 5)) |>.imp fun k ⟨h1, h2, hk⟩ ro gl => ?_)
    obtain ⟨a1, a2⟩ := arity_le t.op
    have hng : ¬ endV l i < 0 := by omega
    have tail : ∀ S : St, S.hav [0, 1, 5, 6, 28] = beS l i [] (i + 1) gl gl.length → loopC Tryz.prog cf 193 (ev k) k (bodyOf Tryz.f193 0) S = _ := fun S hS => h2 gl gl.length k S (by omega) hS
    simp -implicitDefEqProofs [Tryz.f193, h1, hng, w]
    refine bind_go (tail _ ?_) ?_
    · simp [beS]
    · simp only [List.nil_append]
      cases hb : bel l (arity t.op).toNat (i + 1) with
      | nil => simp [beS]
      | cons x q => simp [beS]
end Go.Proofs.YtckonoejmjblfaaGreatDoor.Ev

/- Layer 5: where the expressions below a term begin, as the document finds it. -/
set_option linter.unusedVariables false
set_option linter.unusedSimpArgs false
set_option maxRecDepth 100000
set_option maxHeartbeats 4000000
namespace Go.Proofs.YtckonoejmjblfaaGreatDoor.Ev
open Go Go.RowKit

def rbS (l : List Tm) (i : Nat) (acc : List Nat) (next : Nat) (gl : List (List W)) (ro : Nat) : St :=
  st 29 [(0, .c (L (l.map Tm.c))), (1, V.int .i64 i), (5, if acc = [] then .c (.w (.full [])) else .c (.w (.app 24 (acc.map iD)))), (6, V.int .i64 next), (7, V.int .i64 acc.length), (24, if acc = [] then V.un else .c (.w (.app 24 (acc.map iD))))]
    [] (if acc = [] then [] else [(24, ⟨acc.length, 3, 1⟩)]) gl ro
theorem rb_round (l : List Tm) (hl : l.length < 2305843009213693952) (i : Nat) (t : Tm) (ht : l[i]? = some t) (acc : List Nat) (next m : Nat) (hn : next ≤ l.length) (ha : (acc.length : Int) < arity t.op) (hm : eat 1 (l.drop next) = some m) : Evt fun k => ∀ N gl ro,
    (evC Tryz.prog cf 134 (ev k) N (bodyOf Tryz.f134 0) (rbS l i acc next gl ro)).map (hv [0, 1, 5, 6, 7, 24]) = some (.normal, rbS l i (acc ++ [next]) (next + m) gl ro) := by
  refine (rArity_ev.and (rEnd_ev l hl next (by omega))).imp fun k ⟨h1, h2⟩ N gl ro => ?_
  have h1 := h1 t.op
  have hlt : i < l.length := (List.getElem?_eq_some_iff.1 ht).1
  have hme : l[i] = t := (List.getElem?_eq_some_iff.1 ht).2
  have hlt' : (i : Int) < l.length := by omega
  obtain ⟨a1, a2⟩ := arity_le t.op
  unfold endV at h2
  rw [hm] at h2
  have w0 : IntKind.i64.wrap ((acc.length : Int) + 1) = (acc.length : Int) + 1 := i64w _ (by omega)
  rcases acc with _ | ⟨x, q⟩
  · have ha' : (0 : Int) < arity t.op := by simpa using ha
    simp -implicitDefEqProofs [rbS, bodyOf, loopsOf, hv, Tryz.f134, hlt, hlt', hme, Tm.c, h1, h2, ha', w0]
  · have ha' : (q.length : Int) + 1 < arity t.op := by simpa using ha
    have w0' : IntKind.i64.wrap ((q.length : Int) + 1 + 1) = (q.length : Int) + 1 + 1 := by simpa using w0
    have h5 : (q.length + 1 + 1) * 8 ≤ 140737488355328 := by omega
    have h6 : q.length ≤ 9223372036854775805 := by omega
    simp -implicitDefEqProofs [rbS, bodyOf, loopsOf, hv, Tryz.f134, hlt, hlt', hme, Tm.c, h1, h2, ha', h5, h6, w0']
theorem rb_loop (l : List Tm) (hl : l.length < 2305843009213693952) (i : Nat) (t : Tm) (ht : l[i]? = some t) : ∀ (a : Nat) (acc : List Nat) (next M : Nat), (acc.length : Int) + a = arity t.op → next ≤ l.length → eat a (l.drop next) = some M → Evt fun k => ∀ gl ro n S, a < n → S.hav [0, 1, 5, 6, 7, 24] = rbS l i acc next gl ro →
    loopA (evC Tryz.prog cf 134 (ev k) k (bodyOf Tryz.f134 0)) [0, 1, 5, 6, 7, 24] [] n S = some (.exit 0, rbS l i (acc ++ bel l a next) (next + M) gl ro)
  | 0, acc, next, M, ha, hn, hM => by
    refine rArity_ev.imp fun k h1 gl ro n S hn' hS => ?_
    have h1 := h1 t.op
    have hlt : i < l.length := (List.getElem?_eq_some_iff.1 ht).1
    have hme : l[i] = t := (List.getElem?_eq_some_iff.1 ht).2
    have hlt' : (i : Int) < l.length := by omega
    have hM0 : M = 0 := by
      rw [show eat 0 (l.drop next) = some 0 by cases l.drop next <;> rfl] at hM
      cases hM
      rfl
    subst hM0
    obtain ⟨n, rfl⟩ : ∃ m, n = m + 1 := ⟨n - 1, by omega⟩
    refine loop_exit ?_
    rw [hS, bel, List.append_nil, Nat.add_zero]
    rcases acc with _ | ⟨x, q⟩
    · have ha' : ¬ (0 : Int) < arity t.op := by simp at ha; omega
      simp -implicitDefEqProofs [rbS, bodyOf, loopsOf, hv, Tryz.f134, hlt, hlt', hme, Tm.c, h1, ha']
    · have ha' : ¬ (q.length : Int) + 1 < arity t.op := by simp at ha; omega
      simp -implicitDefEqProofs [rbS, bodyOf, loopsOf, hv, Tryz.f134, hlt, hlt', hme, Tm.c, h1, ha']
  | a + 1, acc, next, M, ha, hn, hM => by
    rw [Nat.add_comm a 1, eat_add, Option.bind_eq_some_iff] at hM
    obtain ⟨m, hm, hM⟩ := hM
    rw [Option.map_eq_some_iff, List.drop_drop] at hM
    obtain ⟨M', hM', rfl⟩ := hM
    have hle := eat_le _ _ _ hm
    rw [List.length_drop] at hle
    refine ((rb_round l hl i t ht acc next m hn (by omega) hm).and (rb_loop l hl i t ht a (acc ++ [next]) (next + m) M' (by simp; omega) (by omega) hM')).imp fun k ⟨q1, q2⟩ gl ro n S hn' hS => ?_
    obtain ⟨n, rfl⟩ : ∃ m, n = m + 1 := ⟨n - 1, by omega⟩
    have r1 := q1 k gl ro
    rw [← hS] at r1
    obtain ⟨S', hS', e⟩ := loop_on r1
    rw [e, q2 gl ro n S' (by omega) hS', bel, hm]
    simp only [Option.getD_some, List.append_assoc, List.singleton_append]
    rw [show next + m + M' = next + (M' + m) by omega]
theorem rBelow_ev (l : List Tm) (hl : l.length < 2305843009213693952) (i : Nat) (t : Tm) (ht : l[i]? = some t) (hE : 0 ≤ endV l i) : Gives 134 [L (l.map Tm.c), I i] (.c (L ((bel l (arity t.op).toNat (i + 1)).map iD))) := by
  have hlt : i < l.length := (List.getElem?_eq_some_iff.1 ht).1
  have hme : l[i] = t := (List.getElem?_eq_some_iff.1 ht).2
  have hd : l.drop i = t :: l.drop (i + 1) := by rw [List.drop_eq_getElem_cons hlt, hme]
  have w : IntKind.i64.wrap ((i : Int) + 1) = (i : Int) + 1 := i64w _ (by omega)
  obtain ⟨K, hK⟩ : ∃ K, eat 1 (l.drop i) = some K := by
    unfold endV at hE
    cases h : eat 1 (l.drop i) with
    | some K => exact ⟨K, rfl⟩
    | none => rw [h] at hE; simp at hE
  have hK' := hK
  rw [hd, eat] at hK'
  split at hK'
  · cases hK'
  · rename_i ha
    rw [Nat.zero_add, Option.map_eq_some_iff] at hK'
    obtain ⟨M, hM, _⟩ := hK'
    have lp := rb_loop l hl i t ht (arity t.op).toNat [] (i + 1) M (by simp; omega) (by omega) hM
    refine .intro Tryz.func134 (by kernel_rfl) (lp.and (Evt.ge 5) |>.imp fun k ⟨h2, hk⟩ ro gl => ?_)
    obtain ⟨a1, a2⟩ := arity_le t.op
    have hng : ¬ endV l i < 0 := by omega
    have tail : ∀ S : St, S.hav [0, 1, 5, 6, 7, 24] = rbS l i [] (i + 1) gl gl.length → loopC Tryz.prog cf 134 (ev k) k (bodyOf Tryz.f134 0) S = _ := fun S hS => h2 gl gl.length k S (by omega) hS
    simp -implicitDefEqProofs [Tryz.f134, w]
    refine bind_go (tail _ ?_) ?_
    · simp [rbS]
    · simp only [List.nil_append]
      cases hb : bel l (arity t.op).toNat (i + 1) with
      | nil => simp [rbS]
      | cons x q => simp [rbS]
end Go.Proofs.YtckonoejmjblfaaGreatDoor.Ev
