/- Layer 7: At, the document's: two below. -/
import Derived.Test.YtkklkkppedociaaGreatPkRAtA
set_option linter.unusedVariables false
set_option linter.unusedSimpArgs false
set_option maxRecDepth 100000
set_option maxHeartbeats 4000000
namespace Go.Proofs.YtkklkkppedociaaGreat.Ev
open Go Go.RowKit

theorem rAt_4 (en : En) (t : Tm) (l : List Tm) (i j m : Nat) (ht : l[i]? = some t) (x y : Int) (hx : -1000000 ≤ x ∧ x ≤ 1000000) (hy : -1000000 ≤ y ∧ y ≤ 1000000) (hB : Gives 71 [L (l.map Tm.c), I i] (.c (L [iD j, iD m]))) (hA : Gives 38 [L (l.map Tm.c), I j, en.w] (V.int .i64 x)) (hA2 : Gives 38 [L (l.map Tm.c), I m, en.w] (V.int .i64 y)) (c : t.op = 4) : Gives 38 [L (l.map Tm.c), I i, en.w] (V.int .i64 (twoI t.op x y)) := by
  have hN := rNear_ev (x + y)
  have hlt : i < l.length := (List.getElem?_eq_some_iff.1 ht).1
  have hlt' : (i : Int) < l.length := by omega
  have hti : l[i] = t := (List.getElem?_eq_some_iff.1 ht).2
  refine .intro Tryz.func38 (by kernel_rfl) ((hB.and (hA.and (hA2.and hN))).imp fun k ⟨hB, hA, hA2, hN⟩ ro gl => ?_)
  obtain ⟨op, n, nm⟩ := t
  simp only at c ⊢
  simp [En.w, En.ws] at hA hA2
  subst c
  unfold twoI
  have w : IntKind.i64.wrap (x + y) = x + y := i64w _ (by omega)
  have n1 := near_id hx
  have n2 := near_id hy
  simp -implicitDefEqProofs [Tryz.f38, En.w, En.ws, Tm.c, hlt, hlt', hti, hB, hA, hA2, w, hN, n1, n2]
theorem rAt_5 (en : En) (t : Tm) (l : List Tm) (i j m : Nat) (ht : l[i]? = some t) (x y : Int) (hx : -1000000 ≤ x ∧ x ≤ 1000000) (hy : -1000000 ≤ y ∧ y ≤ 1000000) (hB : Gives 71 [L (l.map Tm.c), I i] (.c (L [iD j, iD m]))) (hA : Gives 38 [L (l.map Tm.c), I j, en.w] (V.int .i64 x)) (hA2 : Gives 38 [L (l.map Tm.c), I m, en.w] (V.int .i64 y)) (c : t.op = 5) : Gives 38 [L (l.map Tm.c), I i, en.w] (V.int .i64 (twoI t.op x y)) := by
  have hN := rNear_ev (x - y)
  have hlt : i < l.length := (List.getElem?_eq_some_iff.1 ht).1
  have hlt' : (i : Int) < l.length := by omega
  have hti : l[i] = t := (List.getElem?_eq_some_iff.1 ht).2
  refine .intro Tryz.func38 (by kernel_rfl) ((hB.and (hA.and (hA2.and hN))).imp fun k ⟨hB, hA, hA2, hN⟩ ro gl => ?_)
  obtain ⟨op, n, nm⟩ := t
  simp only at c ⊢
  simp [En.w, En.ws] at hA hA2
  subst c
  unfold twoI
  have w : IntKind.i64.wrap (x - y) = x - y := i64w _ (by omega)
  have n1 := near_id hx
  have n2 := near_id hy
  simp -implicitDefEqProofs [Tryz.f38, En.w, En.ws, Tm.c, hlt, hlt', hti, hB, hA, hA2, w, hN, n1, n2]
theorem rAt_6 (en : En) (t : Tm) (l : List Tm) (i j m : Nat) (ht : l[i]? = some t) (x y : Int) (hx : -1000000 ≤ x ∧ x ≤ 1000000) (hy : -1000000 ≤ y ∧ y ≤ 1000000) (hB : Gives 71 [L (l.map Tm.c), I i] (.c (L [iD j, iD m]))) (hA : Gives 38 [L (l.map Tm.c), I j, en.w] (V.int .i64 x)) (hA2 : Gives 38 [L (l.map Tm.c), I m, en.w] (V.int .i64 y)) (c : t.op = 6) : Gives 38 [L (l.map Tm.c), I i, en.w] (V.int .i64 (twoI t.op x y)) := by
  have hN := rNear_ev (x * y)
  have hlt : i < l.length := (List.getElem?_eq_some_iff.1 ht).1
  have hlt' : (i : Int) < l.length := by omega
  have hti : l[i] = t := (List.getElem?_eq_some_iff.1 ht).2
  refine .intro Tryz.func38 (by kernel_rfl) ((hB.and (hA.and (hA2.and hN))).imp fun k ⟨hB, hA, hA2, hN⟩ ro gl => ?_)
  obtain ⟨op, n, nm⟩ := t
  simp only at c ⊢
  simp [En.w, En.ws] at hA hA2
  subst c
  unfold twoI
  have n1 := near_id hx
  have n2 := near_id hy
  have mb := mul_near x y
  rw [n1, n2] at mb
  have w : IntKind.i64.wrap (x * y) = x * y := i64w _ (by omega)
  simp -implicitDefEqProofs [Tryz.f38, En.w, En.ws, Tm.c, hlt, hlt', hti, hB, hA, hA2, w, hN, n1, n2]
theorem rAt_7 (en : En) (t : Tm) (l : List Tm) (i j m : Nat) (ht : l[i]? = some t) (x y : Int) (hx : -1000000 ≤ x ∧ x ≤ 1000000) (hy : -1000000 ≤ y ∧ y ≤ 1000000) (hB : Gives 71 [L (l.map Tm.c), I i] (.c (L [iD j, iD m]))) (hA : Gives 38 [L (l.map Tm.c), I j, en.w] (V.int .i64 x)) (hA2 : Gives 38 [L (l.map Tm.c), I m, en.w] (V.int .i64 y)) (c : t.op = 7) : Gives 38 [L (l.map Tm.c), I i, en.w] (V.int .i64 (twoI t.op x y)) := by
  have hlt : i < l.length := (List.getElem?_eq_some_iff.1 ht).1
  have hlt' : (i : Int) < l.length := by omega
  have hti : l[i] = t := (List.getElem?_eq_some_iff.1 ht).2
  refine .intro Tryz.func38 (by kernel_rfl) ((hB.and (hA.and hA2)).imp fun k ⟨hB, hA, hA2⟩ ro gl => ?_)
  obtain ⟨op, n, nm⟩ := t
  simp only at c ⊢
  simp [En.w, En.ws] at hA hA2
  subst c
  unfold twoI
  by_cases q : x < y
  · have q2 : ¬ y < x := by omega
    simp -implicitDefEqProofs [Tryz.f38, En.w, En.ws, Tm.c, hlt, hlt', hti, hB, hA, hA2, q, q2]
  · by_cases q2 : y < x
    · simp -implicitDefEqProofs [Tryz.f38, En.w, En.ws, Tm.c, hlt, hlt', hti, hB, hA, hA2, q, q2]
    · have q3 : x = y := by omega
      subst q3
      simp -implicitDefEqProofs [Tryz.f38, En.w, En.ws, Tm.c, hlt, hlt', hti, hB, hA, hA2, q]
theorem rAt_8 (en : En) (t : Tm) (l : List Tm) (i j m : Nat) (ht : l[i]? = some t) (x y : Int) (hx : -1000000 ≤ x ∧ x ≤ 1000000) (hy : -1000000 ≤ y ∧ y ≤ 1000000) (hB : Gives 71 [L (l.map Tm.c), I i] (.c (L [iD j, iD m]))) (hA : Gives 38 [L (l.map Tm.c), I j, en.w] (V.int .i64 x)) (hA2 : Gives 38 [L (l.map Tm.c), I m, en.w] (V.int .i64 y)) (c : t.op = 8) : Gives 38 [L (l.map Tm.c), I i, en.w] (V.int .i64 (twoI t.op x y)) := by
  have hlt : i < l.length := (List.getElem?_eq_some_iff.1 ht).1
  have hlt' : (i : Int) < l.length := by omega
  have hti : l[i] = t := (List.getElem?_eq_some_iff.1 ht).2
  refine .intro Tryz.func38 (by kernel_rfl) ((hB.and (hA.and hA2)).imp fun k ⟨hB, hA, hA2⟩ ro gl => ?_)
  obtain ⟨op, n, nm⟩ := t
  simp only at c ⊢
  simp [En.w, En.ws] at hA hA2
  subst c
  unfold twoI
  by_cases q : x < y
  · have q2 : ¬ y < x := by omega
    simp -implicitDefEqProofs [Tryz.f38, En.w, En.ws, Tm.c, hlt, hlt', hti, hB, hA, hA2, q, q2]
  · by_cases q2 : y < x
    · simp -implicitDefEqProofs [Tryz.f38, En.w, En.ws, Tm.c, hlt, hlt', hti, hB, hA, hA2, q, q2]
    · have q3 : x = y := by omega
      subst q3
      simp -implicitDefEqProofs [Tryz.f38, En.w, En.ws, Tm.c, hlt, hlt', hti, hB, hA, hA2, q]
theorem rAt_13 (en : En) (t : Tm) (l : List Tm) (i j m : Nat) (ht : l[i]? = some t) (x y : Int) (hx : -1000000 ≤ x ∧ x ≤ 1000000) (hy : -1000000 ≤ y ∧ y ≤ 1000000) (hB : Gives 71 [L (l.map Tm.c), I i] (.c (L [iD j, iD m]))) (hA : Gives 38 [L (l.map Tm.c), I j, en.w] (V.int .i64 x)) (hA2 : Gives 38 [L (l.map Tm.c), I m, en.w] (V.int .i64 y)) (c : t.op = 13) : Gives 38 [L (l.map Tm.c), I i, en.w] (V.int .i64 (twoI t.op x y)) := by
  have hN := ris_ev (decide (x = y))
  have hlt : i < l.length := (List.getElem?_eq_some_iff.1 ht).1
  have hlt' : (i : Int) < l.length := by omega
  have hti : l[i] = t := (List.getElem?_eq_some_iff.1 ht).2
  refine .intro Tryz.func38 (by kernel_rfl) ((hB.and (hA.and (hA2.and hN))).imp fun k ⟨hB, hA, hA2, hN⟩ ro gl => ?_)
  obtain ⟨op, n, nm⟩ := t
  simp only at c ⊢
  simp [En.w, En.ws] at hA hA2
  subst c
  unfold twoI
  simp -implicitDefEqProofs [Tryz.f38, En.w, En.ws, Tm.c, hlt, hlt', hti, hB, hA, hA2, hN]
theorem rAt_14 (en : En) (t : Tm) (l : List Tm) (i j m : Nat) (ht : l[i]? = some t) (x y : Int) (hx : -1000000 ≤ x ∧ x ≤ 1000000) (hy : -1000000 ≤ y ∧ y ≤ 1000000) (hB : Gives 71 [L (l.map Tm.c), I i] (.c (L [iD j, iD m]))) (hA : Gives 38 [L (l.map Tm.c), I j, en.w] (V.int .i64 x)) (hA2 : Gives 38 [L (l.map Tm.c), I m, en.w] (V.int .i64 y)) (c : t.op = 14) : Gives 38 [L (l.map Tm.c), I i, en.w] (V.int .i64 (twoI t.op x y)) := by
  have hN := ris_ev (x != y)
  have hlt : i < l.length := (List.getElem?_eq_some_iff.1 ht).1
  have hlt' : (i : Int) < l.length := by omega
  have hti : l[i] = t := (List.getElem?_eq_some_iff.1 ht).2
  refine .intro Tryz.func38 (by kernel_rfl) ((hB.and (hA.and (hA2.and hN))).imp fun k ⟨hB, hA, hA2, hN⟩ ro gl => ?_)
  obtain ⟨op, n, nm⟩ := t
  simp only at c ⊢
  simp [En.w, En.ws] at hA hA2
  subst c
  unfold twoI
  simp -implicitDefEqProofs [Tryz.f38, En.w, En.ws, Tm.c, hlt, hlt', hti, hB, hA, hA2, hN]
end Go.Proofs.YtkklkkppedociaaGreat.Ev
