/- Layers 5, 8 and 9: what is the same. -/
import Derived.Test.YtckonoejmjblfaaGreatPkTrp
import Derived.Test.YtckonoejmjblfaaGreatPkTrmB
set_option linter.unusedVariables false
set_option linter.unusedSimpArgs false
set_option maxRecDepth 100000
set_option maxHeartbeats 4000000
namespace Go.Proofs.YtckonoejmjblfaaGreat.Ev
open Go Go.RowKit

def seqS (a b : List Tm) (i : Nat) (gl : List (List W)) (ro : Nat) : St := st 26 [(0, .c (L (a.map Tm.c))), (1, .c (L (b.map Tm.c))), (12, V.int .i64 a.length), (13, V.int .i64 i)] [] [] gl ro
instance acDec : DecidableEq Ac := fun a b => decidable_of_iff (a.name = b.name ∧ a.any = b.any ∧ a.expr = b.expr) (by cases a; cases b; simp)
instance tnDec : DecidableEq Tn := fun a b => decidable_of_iff (a.event = b.event ∧ a.target = b.target ∧ a.guard = b.guard ∧ a.acts = b.acts) (by
  cases a; cases b
  simp only [Tn.mk.injEq]
  constructor
  · rintro ⟨h1, h2, h3, h4⟩; exact ⟨h1, h3, h4, h2⟩
  · rintro ⟨h1, h3, h4, h2⟩; exact ⟨h1, h2, h3, h4⟩)
/-- Within bounds. -/
structure Ac.Sm (a : Ac) : Prop where
  len : a.expr.length < 2305843009213693952
def rsaS (a b : List Ac) (i : Nat) (gl : List (List W)) (ro : Nat) : St := st 55 [(0, .c (L (a.map Ac.c))), (1, .c (L (b.map Ac.c))), (5, V.int .i64 i)] [] [] gl ro
theorem rsa_loop (a b : List Ac) (hl : a.length < 1000000) (he : a.length = b.length) (ha : ∀ x ∈ a, x.Sm) (hb : ∀ x ∈ b, x.Sm) : Evt fun k => ∀ gl ro S, S.hav [0, 1, 5] = rsaS a b 0 gl ro →
    loopA (evC Tryz.prog cf 9 (ev k) k (bodyOf Tryz.f9 0)) [0, 1, 5] [4] k S = some (if a = b then (.exit 0, rsaS a b a.length gl ro) else (.ret, st 55 [(4, V.bool false)] [] [] gl ro)) := by
  have hs : Evt fun k => ∀ x ∈ a, ∀ y ∈ b, ∀ ro gl, ev k 24 [L (x.expr.map Tm.c), L (y.expr.map Tm.c)] ro gl = some (V.bool (decide (x.expr = y.expr)), gl) := Evt.all a fun x hx => Evt.all b fun y hy => Same_ev x.expr y.expr (ha x hx).len (hb y hy).len
  refine (hs.and (Evt.ge (a.length + 1))).imp fun k ⟨hs, hk⟩ gl ro S hS => ?_
  refine loop_by (keep := [0, 1, 5]) (res := [4]) (fun i : Nat => rsaS a b i gl ro) (fun i => i ≤ a.length) (fun i => a.length - i) (fun i => if a.drop i = b.drop i then (.exit 0, rsaS a b a.length gl ro) else (.ret, st 55 [(4, V.bool false)] [] [] gl ro)) ?_ k 0 S (Nat.zero_le _) (by omega) hS
  intro i hi
  by_cases h : i = a.length
  · subst h
    refine .inr (.inl ⟨0, rsaS a b a.length gl ro, ?_, ?_⟩)
    · simp -implicitDefEqProofs [rsaS, bodyOf, loopsOf, hv, Tryz.f9]
    · rw [List.drop_of_length_le (Nat.le_refl _), List.drop_of_length_le (by omega), if_pos rfl]
  · have h1 : i < a.length := by omega
    have h2 : i < b.length := by omega
    have h1' : (i : Int) < a.length := by omega
    have h2' : (i : Int) < b.length := by omega
    have da : a.drop i = a[i] :: a.drop (i + 1) := List.drop_eq_getElem_cons h1
    have db : b.drop i = b[i] :: b.drop (i + 1) := List.drop_eq_getElem_cons h2
    have ca : a[i]? = some a[i] := List.getElem?_eq_getElem h1
    have cb : b[i]? = some b[i] := List.getElem?_eq_getElem h2
    have hq := hs a[i] (List.getElem_mem h1) b[i] (List.getElem_mem h2)
    generalize a[i] = x at da ca hq
    generalize b[i] = y at db cb hq
    have w : IntKind.i64.wrap ((i : Int) + 1) = (i : Int) + 1 := i64w _ (by omega)
    have hx : a[i] = x := (List.getElem?_eq_some_iff.1 ca).2
    have hy : b[i] = y := (List.getElem?_eq_some_iff.1 cb).2
    have hdec : (a.drop i = b.drop i) = (x = y ∧ a.drop (i + 1) = b.drop (i + 1)) := by rw [da, db]; simp
    obtain ⟨n1, y1, e1⟩ := x
    obtain ⟨n2, y2, e2⟩ := y
    simp only [Ac.mk.injEq] at hq hdec
    by_cases c1 : n1 = n2
    · subst c1
      by_cases c2 : y1 = y2
      · subst c2
        by_cases c3 : e1 = e2
        · subst c3
          refine .inl ⟨i + 1, by omega, by omega, ?_, by simp only [hdec, true_and]⟩
          simp at hq
          simp -implicitDefEqProofs [rsaS, bodyOf, loopsOf, hv, Tryz.f9, h1, h2, h1', h2', hx, hy, Ac.c, w, hq]
        · refine .inr (.inr ⟨st 55 [(4, V.bool false)] [] [] gl ro, ?_, by simp only [hdec, c3, and_false, false_and, if_false]⟩)
          simp [c3] at hq
          simp -implicitDefEqProofs [rsaS, bodyOf, loopsOf, hv, Tryz.f9, h1, h2, h1', h2', hx, hy, Ac.c, w, hq]
      · refine .inr (.inr ⟨st 55 [(4, V.bool false)] [] [] gl ro, ?_, by simp only [hdec, c2, and_false, false_and, if_false]⟩)
        simp -implicitDefEqProofs [rsaS, bodyOf, loopsOf, hv, Tryz.f9, h1, h2, h1', h2', hx, hy, Ac.c, w, c2]
    · refine .inr (.inr ⟨st 55 [(4, V.bool false)] [] [] gl ro, ?_, by simp only [hdec, c1, and_false, false_and, if_false]⟩)
      simp -implicitDefEqProofs [rsaS, bodyOf, loopsOf, hv, Tryz.f9, h1, h2, h1', h2', hx, hy, Ac.c, w, c1]
theorem rASame_ev (a b : List Ac) (hl : a.length < 1000000) (hl' : b.length < 1000000) (ha : ∀ x ∈ a, x.Sm) (hb : ∀ x ∈ b, x.Sm) : Gives 9 [L (a.map Ac.c), L (b.map Ac.c)] (V.bool (decide (a = b))) := by
  by_cases he : a.length = b.length
  · have he' : (a.length : Int) = b.length := by omega
    refine .intro Tryz.func9 (by kernel_rfl) ((rsa_loop a b hl he ha hb).imp fun k h ro gl => ?_)
    have tail : ∀ S : St, S.hav [0, 1, 5] = rsaS a b 0 gl gl.length → loopC Tryz.prog cf 9 (ev k) k (bodyOf Tryz.f9 0) S = _ := fun S hS => h gl gl.length S hS
    simp -implicitDefEqProofs [Tryz.f9, he']
    refine bind_go (tail _ ?_) ?_
    · simp [rsaS]
    · by_cases hab : a = b
      · rw [if_pos hab]; simp [hab, rsaS]
      · rw [if_neg hab]; simp [hab]
  · have he' : ¬ (a.length : Int) = b.length := by omega
    have hab : ¬ a = b := fun e => he (by rw [e])
    refine .intro Tryz.func9 (by kernel_rfl) (.of fun k ro gl => ?_)
    simp -implicitDefEqProofs [Tryz.f9, he, he', hab]
structure Tn.Sm (t : Tn) : Prop where
  len : t.guard.length < 2305843009213693952
  alen : t.acts.length < 1000000
  acts : ∀ a ∈ t.acts, a.Sm
theorem tn_eq (t u : Tn) : (t = u) = (t.event = u.event ∧ t.target = u.target ∧ t.guard = u.guard ∧ t.acts = u.acts) := by
  rw [eq_iff_iff]
  constructor
  · rintro rfl; exact ⟨rfl, rfl, rfl, rfl⟩
  · obtain ⟨a, b, c, d⟩ := t
    obtain ⟨a', b', c', d'⟩ := u
    rintro ⟨h1, h2, h3, h4⟩
    simp only at h1 h2 h3 h4
    rw [h1, h2, h3, h4]
end Go.Proofs.YtckonoejmjblfaaGreat.Ev
