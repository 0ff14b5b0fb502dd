/- Layers 5, 8 and 9: what is the same. -/
import Derived.Test.YtkklkkppedociaaGreatDoorPkTrn
import Derived.Test.YtkklkkppedociaaGreatDoorPkTrmB
set_option linter.unusedVariables false
set_option linter.unusedSimpArgs false
set_option maxRecDepth 100000
set_option maxHeartbeats 4000000
namespace Go.Proofs.YtkklkkppedociaaGreatDoor.Ev
open Go Go.RowKit

def seqS (a b : List Tm) (i : Nat) (gl : List (List W)) (ro : Nat) : St := st 26 [(0, .c (L (a.map Tm.c))), (1, .c (L (b.map Tm.c))), (12, V.int .i64 a.length), (13, V.int .i64 i)] [] [] gl ro
theorem seq_loop (call : Caller) (N : Nat) (gl : List (List W)) (ro : Nat) (a b : List Tm) (hl : a.length < 2305843009213693952) (he : a.length = b.length) (n : Nat) (hn : a.length < n) (S : St) (hS : S.hav [0, 1, 12, 13] = seqS a b 0 gl ro) :
    loopA (evC Tryz.prog cf 47 call N (bodyOf Tryz.f47 0)) [0, 1, 12, 13] [4] n S = some (if a = b then (.exit 0, seqS a b a.length gl ro) else (.ret, st 26 [(4, V.bool false)] [] [] gl ro)) := by
  refine loop_by (keep := [0, 1, 12, 13]) (res := [4]) (fun i : Nat => seqS a b i gl ro) (fun i => i ≤ a.length) (fun i => a.length - i) (fun i => if a.drop i = b.drop i then (.exit 0, seqS a b a.length gl ro) else (.ret, st 26 [(4, V.bool false)] [] [] gl ro)) ?_ n 0 S (Nat.zero_le _) (by omega) hS
  intro i hi
  by_cases h : i = a.length
  · subst h
    refine .inr (.inl ⟨0, seqS a b a.length gl ro, ?_, ?_⟩)
    · simp -implicitDefEqProofs [seqS, bodyOf, loopsOf, hv, Tryz.f47]
    · rw [List.drop_of_length_le (Nat.le_refl _), List.drop_of_length_le (by omega), if_pos rfl]
  · have h1 : i < a.length := by omega
    have h2 : i < b.length := by omega
    have h1' : (i : Int) < a.length := by omega
    have h2' : (i : Int) < b.length := by omega
    have da : a.drop i = a[i] :: a.drop (i + 1) := List.drop_eq_getElem_cons h1
    have db : b.drop i = b[i] :: b.drop (i + 1) := List.drop_eq_getElem_cons h2
    have ca : a[i]? = some a[i] := List.getElem?_eq_getElem h1
    have cb : b[i]? = some b[i] := List.getElem?_eq_getElem h2
    generalize a[i] = x at da ca
    generalize b[i] = y at db cb
    have w : IntKind.i64.wrap ((i : Int) + 1) = (i : Int) + 1 := i64w _ (by omega)
    have hx : a[i] = x := (List.getElem?_eq_some_iff.1 ca).2
    have hy : b[i] = y := (List.getElem?_eq_some_iff.1 cb).2
    obtain ⟨o, m, s⟩ := x
    obtain ⟨o', m', s'⟩ := y
    by_cases hxy : o = o' ∧ m = m' ∧ s = s'
    · obtain ⟨rfl, rfl, rfl⟩ := hxy
      refine .inl ⟨i + 1, by omega, by omega, ?_, by rw [da, db]; simp⟩
      simp -implicitDefEqProofs [seqS, bodyOf, loopsOf, hv, Tryz.f47, h1, h2, h1', h2', hx, hy, Tm.c, w]
    · refine .inr (.inr ⟨st 26 [(4, V.bool false)] [] [] gl ro, ?_, by rw [da, db, if_neg (by simp; intro q1 q2 q3; exact absurd ⟨q1, q2, q3⟩ hxy)]⟩)
      have e : (decide (o = o') && (decide (m = m') && decide (s = s'))) = false := by
        simp only [Bool.and_eq_false_imp, decide_eq_true_eq, decide_eq_false_iff_not]
        intro q1 q2 q3
        exact hxy ⟨q1, q2, q3⟩
      by_cases q1 : o = o'
      · by_cases q2 : m = m'
        · have q3 : ¬ s = s' := fun q3 => hxy ⟨q1, q2, q3⟩
          simp -implicitDefEqProofs [seqS, bodyOf, loopsOf, hv, Tryz.f47, h1, h2, h1', h2', hx, hy, Tm.c, q1, q2, q3]
        · simp -implicitDefEqProofs [seqS, bodyOf, loopsOf, hv, Tryz.f47, h1, h2, h1', h2', hx, hy, Tm.c, q1, q2]
      · simp -implicitDefEqProofs [seqS, bodyOf, loopsOf, hv, Tryz.f47, h1, h2, h1', h2', hx, hy, Tm.c, q1]
theorem SEqual_ev (a b : List Tm) (hl : a.length < 2305843009213693952) (hl' : b.length < 2305843009213693952) : Gives 47 [L (a.map Tm.c), L (b.map Tm.c)] (V.bool (decide (a = b))) := by
  refine .intro Tryz.func47 (by kernel_rfl) ((Evt.ge (a.length + 1)).imp fun k hk ro gl => ?_)
  by_cases he : a.length = b.length
  · have he' : (a.length : Int) = b.length := by omega
    have tail : ∀ S : St, S.hav [0, 1, 12, 13] = seqS a b 0 gl gl.length → loopC Tryz.prog cf 47 (ev k) k (bodyOf Tryz.f47 0) S = _ := fun S hS => seq_loop (ev k) k gl gl.length a b hl he k (by omega) S hS
    simp -implicitDefEqProofs [Tryz.f47, he, he']
    refine bind_go (tail _ ?_) ?_
    · simp [seqS, he]
    · by_cases hab : a = b
      · simp [hab, seqS]
      · simp [hab]
  · have he' : ¬ (a.length : Int) = b.length := by omega
    have hab : ¬ a = b := fun e => he (by rw [e])
    simp -implicitDefEqProofs [Tryz.f47, he, he', hab]
instance acDec : DecidableEq Ac := fun a b => decidable_of_iff (a.name = b.name ∧ a.any = b.any ∧ a.expr = b.expr) (by cases a; cases b; simp)
instance tnDec : DecidableEq Tn := fun a b => decidable_of_iff (a.event = b.event ∧ a.target = b.target ∧ a.guard = b.guard ∧ a.acts = b.acts) (by
  cases a; cases b
  simp only [Tn.mk.injEq]
  constructor
  · rintro ⟨h1, h2, h3, h4⟩; exact ⟨h1, h3, h4, h2⟩
  · rintro ⟨h1, h3, h4, h2⟩; exact ⟨h1, h2, h3, h4⟩)
/-- Within bounds. -/
structure Ac.Sm (a : Ac) : Prop where
  len : a.expr.length < 2305843009213693952
theorem sameAct_ev (a b : Ac) (ha : a.Sm) (hb : b.Sm) : Gives 49 [a.w, b.w] (V.bool (decide (a = b))) := by
  have h1 := SEqual_ev a.expr b.expr ha.len hb.len
  obtain ⟨n1, y1, e1⟩ := a
  obtain ⟨n2, y2, e2⟩ := b
  simp only [Ac.mk.injEq] at h1 ⊢
  refine .intro Tryz.func49 (by kernel_rfl) (h1.imp fun k h1 ro gl => ?_)
  by_cases c1 : n1 = n2
  · subst c1
    by_cases c2 : y1 = y2
    · subst c2
      by_cases c3 : e1 = e2
      · subst c3
        simp -implicitDefEqProofs [Tryz.f49, Ac.w, h1]
      · simp -implicitDefEqProofs [Tryz.f49, Ac.w, h1, c3]
    · simp -implicitDefEqProofs [Tryz.f49, Ac.w, c2]
  · simp -implicitDefEqProofs [Tryz.f49, Ac.w, c1]
def aeS (a b : List Ac) (i : Nat) (gl : List (List W)) (ro : Nat) : St := st 32 [(1, .c (L (b.map Ac.c))), (2, .c (.w (.fn 49 []))), (15, .c (L (a.map Ac.c))), (16, V.int .i64 a.length), (17, V.int .i64 i)] [] [] gl ro
theorem ae_loop (a b : List Ac) (hl : a.length < 1000000) (he : a.length = b.length) (ha : ∀ x ∈ a, x.Sm) (hb : ∀ x ∈ b, x.Sm) : Evt fun k => ∀ gl ro S, S.hav [1, 2, 15, 16, 17] = aeS a b 0 gl ro →
    loopA (evC Tryz.prog cf 48 (ev k) k (bodyOf Tryz.f48 0)) [1, 2, 15, 16, 17] [6] k S = some (if a = b then (.exit 0, aeS a b a.length gl ro) else (.ret, st 32 [(6, V.bool false)] [] [] gl ro)) := by
  have hs : Evt fun k => ∀ x ∈ a, ∀ y ∈ b, ∀ ro gl, ev k 49 [x.w, y.w] ro gl = some (V.bool (decide (x = y)), gl) := Evt.all a fun x hx => Evt.all b fun y hy => sameAct_ev x y (ha x hx) (hb y hy)
  refine (hs.and (Evt.ge (a.length + 1))).imp fun k ⟨hs, hk⟩ gl ro S hS => ?_
  refine loop_by (keep := [1, 2, 15, 16, 17]) (res := [6]) (fun i : Nat => aeS a b i gl ro) (fun i => i ≤ a.length) (fun i => a.length - i) (fun i => if a.drop i = b.drop i then (.exit 0, aeS a b a.length gl ro) else (.ret, st 32 [(6, V.bool false)] [] [] gl ro)) ?_ k 0 S (Nat.zero_le _) (by omega) hS
  intro i hi
  by_cases h : i = a.length
  · subst h
    refine .inr (.inl ⟨0, aeS a b a.length gl ro, ?_, ?_⟩)
    · simp -implicitDefEqProofs [aeS, bodyOf, loopsOf, hv, Tryz.f48]
    · rw [List.drop_of_length_le (Nat.le_refl _), List.drop_of_length_le (by omega), if_pos rfl]
  · have h1 : i < a.length := by omega
    have h2 : i < b.length := by omega
    have h1' : (i : Int) < a.length := by omega
    have h2' : (i : Int) < b.length := by omega
    have da : a.drop i = a[i] :: a.drop (i + 1) := List.drop_eq_getElem_cons h1
    have db : b.drop i = b[i] :: b.drop (i + 1) := List.drop_eq_getElem_cons h2
    have ca : a[i]? = some a[i] := List.getElem?_eq_getElem h1
    have cb : b[i]? = some b[i] := List.getElem?_eq_getElem h2
    have hq := hs a[i] (List.getElem_mem h1) b[i] (List.getElem_mem h2)
    generalize a[i] = x at da ca hq
    generalize b[i] = y at db cb hq
    have w : IntKind.i64.wrap ((i : Int) + 1) = (i : Int) + 1 := i64w _ (by omega)
    have hx : a[i] = x := (List.getElem?_eq_some_iff.1 ca).2
    have hy : b[i] = y := (List.getElem?_eq_some_iff.1 cb).2
    have hdec : (a.drop i = b.drop i) = (x = y ∧ a.drop (i + 1) = b.drop (i + 1)) := by rw [da, db]; simp
    by_cases hxy : x = y
    · rw [decide_eq_true hxy] at hq
      obtain ⟨n1, y1, e1⟩ := x
      obtain ⟨n2, y2, e2⟩ := y
      simp [Ac.w] at hq
      refine .inl ⟨i + 1, by omega, by omega, ?_, by simp only [hdec, hxy, true_and]⟩
      simp -implicitDefEqProofs [aeS, bodyOf, loopsOf, hv, Tryz.f48, h1, h2, h1', h2', hx, hy, Ac.c, w, hq]
    · rw [decide_eq_false hxy] at hq
      refine .inr (.inr ⟨st 32 [(6, V.bool false)] [] [] gl ro, ?_, by simp only [hdec, hxy, false_and, if_false]⟩)
      obtain ⟨n1, y1, e1⟩ := x
      obtain ⟨n2, y2, e2⟩ := y
      simp [Ac.w] at hq
      simp -implicitDefEqProofs [aeS, bodyOf, loopsOf, hv, Tryz.f48, h1, h2, h1', h2', hx, hy, Ac.c, w, hq]
theorem AEqual_ev (a b : List Ac) (hl : a.length < 1000000) (hl' : b.length < 1000000) (ha : ∀ x ∈ a, x.Sm) (hb : ∀ x ∈ b, x.Sm) : Gives 48 [L (a.map Ac.c), L (b.map Ac.c), .w (.fn 49 [])] (V.bool (decide (a = b))) := by
  by_cases he : a.length = b.length
  · have he' : (a.length : Int) = b.length := by omega
    refine .intro Tryz.func48 (by kernel_rfl) ((ae_loop a b hl he ha hb).imp fun k h ro gl => ?_)
    have tail : ∀ S : St, S.hav [1, 2, 15, 16, 17] = aeS a b 0 gl gl.length → loopC Tryz.prog cf 48 (ev k) k (bodyOf Tryz.f48 0) S = _ := fun S hS => h gl gl.length S hS
    simp -implicitDefEqProofs [Tryz.f48, he']
    refine bind_go (tail _ ?_) ?_
    · simp [aeS, he]
    · by_cases hab : a = b
      · rw [if_pos hab]; simp [hab, aeS]
      · rw [if_neg hab]; simp [hab]
  · have he' : ¬ (a.length : Int) = b.length := by omega
    have hab : ¬ a = b := fun e => he (by rw [e])
    refine .intro Tryz.func48 (by kernel_rfl) (.of fun k ro gl => ?_)
    simp -implicitDefEqProofs [Tryz.f48, he, he', hab]
def rsaS (a b : List Ac) (i : Nat) (gl : List (List W)) (ro : Nat) : St := st 55 [(0, .c (L (a.map Ac.c))), (1, .c (L (b.map Ac.c))), (5, V.int .i64 i)] [] [] gl ro
theorem rsa_loop (a b : List Ac) (hl : a.length < 1000000) (he : a.length = b.length) (ha : ∀ x ∈ a, x.Sm) (hb : ∀ x ∈ b, x.Sm) : Evt fun k => ∀ gl ro S, S.hav [0, 1, 5] = rsaS a b 0 gl ro →
    loopA (evC Tryz.prog cf 50 (ev k) k (bodyOf Tryz.f50 0)) [0, 1, 5] [4] k S = some (if a = b then (.exit 0, rsaS a b a.length gl ro) else (.ret, st 55 [(4, V.bool false)] [] [] gl ro)) := by
  have hs : Evt fun k => ∀ x ∈ a, ∀ y ∈ b, ∀ ro gl, ev k 9 [L (x.expr.map Tm.c), L (y.expr.map Tm.c)] ro gl = some (V.bool (decide (x.expr = y.expr)), gl) := Evt.all a fun x hx => Evt.all b fun y hy => Same_ev x.expr y.expr (ha x hx).len (hb y hy).len
  refine (hs.and (Evt.ge (a.length + 1))).imp fun k ⟨hs, hk⟩ gl ro S hS => ?_
  refine loop_by (keep := [0, 1, 5]) (res := [4]) (fun i : Nat => rsaS a b i gl ro) (fun i => i ≤ a.length) (fun i => a.length - i) (fun i => if a.drop i = b.drop i then (.exit 0, rsaS a b a.length gl ro) else (.ret, st 55 [(4, V.bool false)] [] [] gl ro)) ?_ k 0 S (Nat.zero_le _) (by omega) hS
  intro i hi
  by_cases h : i = a.length
  · subst h
    refine .inr (.inl ⟨0, rsaS a b a.length gl ro, ?_, ?_⟩)
    · simp -implicitDefEqProofs [rsaS, bodyOf, loopsOf, hv, Tryz.f50]
    · rw [List.drop_of_length_le (Nat.le_refl _), List.drop_of_length_le (by omega), if_pos rfl]
  · have h1 : i < a.length := by omega
    have h2 : i < b.length := by omega
    have h1' : (i : Int) < a.length := by omega
    have h2' : (i : Int) < b.length := by omega
    have da : a.drop i = a[i] :: a.drop (i + 1) := List.drop_eq_getElem_cons h1
    have db : b.drop i = b[i] :: b.drop (i + 1) := List.drop_eq_getElem_cons h2
    have ca : a[i]? = some a[i] := List.getElem?_eq_getElem h1
    have cb : b[i]? = some b[i] := List.getElem?_eq_getElem h2
    have hq := hs a[i] (List.getElem_mem h1) b[i] (List.getElem_mem h2)
    generalize a[i] = x at da ca hq
    generalize b[i] = y at db cb hq
    have w : IntKind.i64.wrap ((i : Int) + 1) = (i : Int) + 1 := i64w _ (by omega)
    have hx : a[i] = x := (List.getElem?_eq_some_iff.1 ca).2
    have hy : b[i] = y := (List.getElem?_eq_some_iff.1 cb).2
    have hdec : (a.drop i = b.drop i) = (x = y ∧ a.drop (i + 1) = b.drop (i + 1)) := by rw [da, db]; simp
    obtain ⟨n1, y1, e1⟩ := x
    obtain ⟨n2, y2, e2⟩ := y
    simp only [Ac.mk.injEq] at hq hdec
    by_cases c1 : n1 = n2
    · subst c1
      by_cases c2 : y1 = y2
      · subst c2
        by_cases c3 : e1 = e2
        · subst c3
          refine .inl ⟨i + 1, by omega, by omega, ?_, by simp only [hdec, true_and]⟩
          simp at hq
          simp -implicitDefEqProofs [rsaS, bodyOf, loopsOf, hv, Tryz.f50, h1, h2, h1', h2', hx, hy, Ac.c, w, hq]
        · refine .inr (.inr ⟨st 55 [(4, V.bool false)] [] [] gl ro, ?_, by simp only [hdec, c3, and_false, false_and, if_false]⟩)
          simp [c3] at hq
          simp -implicitDefEqProofs [rsaS, bodyOf, loopsOf, hv, Tryz.f50, h1, h2, h1', h2', hx, hy, Ac.c, w, hq]
      · refine .inr (.inr ⟨st 55 [(4, V.bool false)] [] [] gl ro, ?_, by simp only [hdec, c2, and_false, false_and, if_false]⟩)
        simp -implicitDefEqProofs [rsaS, bodyOf, loopsOf, hv, Tryz.f50, h1, h2, h1', h2', hx, hy, Ac.c, w, c2]
    · refine .inr (.inr ⟨st 55 [(4, V.bool false)] [] [] gl ro, ?_, by simp only [hdec, c1, and_false, false_and, if_false]⟩)
      simp -implicitDefEqProofs [rsaS, bodyOf, loopsOf, hv, Tryz.f50, h1, h2, h1', h2', hx, hy, Ac.c, w, c1]
theorem rASame_ev (a b : List Ac) (hl : a.length < 1000000) (hl' : b.length < 1000000) (ha : ∀ x ∈ a, x.Sm) (hb : ∀ x ∈ b, x.Sm) : Gives 50 [L (a.map Ac.c), L (b.map Ac.c)] (V.bool (decide (a = b))) := by
  by_cases he : a.length = b.length
  · have he' : (a.length : Int) = b.length := by omega
    refine .intro Tryz.func50 (by kernel_rfl) ((rsa_loop a b hl he ha hb).imp fun k h ro gl => ?_)
    have tail : ∀ S : St, S.hav [0, 1, 5] = rsaS a b 0 gl gl.length → loopC Tryz.prog cf 50 (ev k) k (bodyOf Tryz.f50 0) S = _ := fun S hS => h gl gl.length S hS
    simp -implicitDefEqProofs [Tryz.f50, he']
    refine bind_go (tail _ ?_) ?_
    · simp [rsaS]
    · by_cases hab : a = b
      · rw [if_pos hab]; simp [hab, rsaS]
      · rw [if_neg hab]; simp [hab]
  · have he' : ¬ (a.length : Int) = b.length := by omega
    have hab : ¬ a = b := fun e => he (by rw [e])
    refine .intro Tryz.func50 (by kernel_rfl) (.of fun k ro gl => ?_)
    simp -implicitDefEqProofs [Tryz.f50, he, he', hab]
structure Tn.Sm (t : Tn) : Prop where
  len : t.guard.length < 2305843009213693952
  alen : t.acts.length < 1000000
  acts : ∀ a ∈ t.acts, a.Sm
theorem tn_eq (t u : Tn) : (t = u) = (t.event = u.event ∧ t.target = u.target ∧ t.guard = u.guard ∧ t.acts = u.acts) := by
  rw [eq_iff_iff]
  constructor
  · rintro rfl; exact ⟨rfl, rfl, rfl, rfl⟩
  · obtain ⟨a, b, c, d⟩ := t
    obtain ⟨a', b', c', d'⟩ := u
    rintro ⟨h1, h2, h3, h4⟩
    simp only at h1 h2 h3 h4
    rw [h1, h2, h3, h4]
theorem TSame_ev (t u : Tn) (ht : t.Sm) (hu : u.Sm) : Gives 21 [t.w, u.w] (V.bool (decide (t = u))) := by
  have h1 := SEqual_ev t.guard u.guard ht.len hu.len
  have h2 := AEqual_ev t.acts u.acts ht.alen hu.alen ht.acts hu.acts
  have e := tn_eq t u
  simp only [e]
  obtain ⟨v1, g1, a1, t1⟩ := t
  obtain ⟨v2, g2, a2, t2⟩ := u
  simp only at h1 h2 ⊢
  refine .intro Tryz.func21 (by kernel_rfl) ((h1.and h2).imp fun k ⟨h1, h2⟩ ro gl => ?_)
  by_cases c1 : v1 = v2
  · subst c1
    by_cases c2 : t1 = t2
    · subst c2
      by_cases c3 : g1 = g2
      · subst c3
        by_cases c4 : a1 = a2
        · subst c4
          simp at h1 h2
          simp -implicitDefEqProofs [Tryz.f21, Tn.w, h1, h2]
        · simp [c4] at h1 h2
          simp -implicitDefEqProofs [Tryz.f21, Tn.w, h1, h2, c4]
      · simp [c3] at h1
        simp -implicitDefEqProofs [Tryz.f21, Tn.w, h1, c3]
    · simp -implicitDefEqProofs [Tryz.f21, Tn.w, c2]
  · simp -implicitDefEqProofs [Tryz.f21, Tn.w, c1]
theorem rTSame_ev (t u : Tn) (ht : t.Sm) (hu : u.Sm) : Gives 22 [t.w, u.w] (V.bool (decide (t = u))) := by
  have h1 := Same_ev t.guard u.guard ht.len hu.len
  have h2 := rASame_ev t.acts u.acts ht.alen hu.alen ht.acts hu.acts
  have e := tn_eq t u
  simp only [e]
  obtain ⟨v1, g1, a1, t1⟩ := t
  obtain ⟨v2, g2, a2, t2⟩ := u
  simp only at h1 h2 ⊢
  refine .intro Tryz.func22 (by kernel_rfl) ((h1.and h2).imp fun k ⟨h1, h2⟩ ro gl => ?_)
  by_cases c1 : v1 = v2
  · subst c1
    by_cases c2 : t1 = t2
    · subst c2
      by_cases c3 : g1 = g2
      · subst c3
        by_cases c4 : a1 = a2
        · subst c4
          simp at h1 h2
          simp -implicitDefEqProofs [Tryz.f22, Tn.w, h1, h2]
        · simp [c4] at h1 h2
          simp -implicitDefEqProofs [Tryz.f22, Tn.w, h1, h2, c4]
      · simp [c3] at h1
        simp -implicitDefEqProofs [Tryz.f22, Tn.w, h1, c3]
    · simp -implicitDefEqProofs [Tryz.f22, Tn.w, c2]
  · simp -implicitDefEqProofs [Tryz.f22, Tn.w, c1]
end Go.Proofs.YtkklkkppedociaaGreatDoor.Ev
