/- Layer 7: At, the document's: two below. -/
import Derived.Test.YtkklkkppedociaaGreatPkRAtA
set_option linter.unusedVariables false
set_option linter.unusedSimpArgs false
set_option maxRecDepth 100000
set_option maxHeartbeats 4000000
namespace Go.Proofs.YtkklkkppedociaaGreat.Ev
open Go Go.RowKit

theorem rAt_15 (en : En) (t : Tm) (l : List Tm) (i j m : Nat) (ht : l[i]? = some t) (x y : Int) (hx : -1000000 ≤ x ∧ x ≤ 1000000) (hy : -1000000 ≤ y ∧ y ≤ 1000000) (hB : Gives 71 [L (l.map Tm.c), I i] (.c (L [iD j, iD m]))) (hA : Gives 38 [L (l.map Tm.c), I j, en.w] (V.int .i64 x)) (hA2 : Gives 38 [L (l.map Tm.c), I m, en.w] (V.int .i64 y)) (c : t.op = 15) : Gives 38 [L (l.map Tm.c), I i, en.w] (V.int .i64 (twoI t.op x y)) := by
  have hN := ris_ev (decide (x < y))
  have hlt : i < l.length := (List.getElem?_eq_some_iff.1 ht).1
  have hlt' : (i : Int) < l.length := by omega
  have hti : l[i] = t := (List.getElem?_eq_some_iff.1 ht).2
  refine .intro Tryz.func38 (by kernel_rfl) ((hB.and (hA.and (hA2.and hN))).imp fun k ⟨hB, hA, hA2, hN⟩ ro gl => ?_)
  obtain ⟨op, n, nm⟩ := t
  simp only at c ⊢
  simp [En.w, En.ws] at hA hA2
  subst c
  unfold twoI
  simp -implicitDefEqProofs [Tryz.f38, En.w, En.ws, Tm.c, hlt, hlt', hti, hB, hA, hA2, hN]
theorem rAt_16 (en : En) (t : Tm) (l : List Tm) (i j m : Nat) (ht : l[i]? = some t) (x y : Int) (hx : -1000000 ≤ x ∧ x ≤ 1000000) (hy : -1000000 ≤ y ∧ y ≤ 1000000) (hB : Gives 71 [L (l.map Tm.c), I i] (.c (L [iD j, iD m]))) (hA : Gives 38 [L (l.map Tm.c), I j, en.w] (V.int .i64 x)) (hA2 : Gives 38 [L (l.map Tm.c), I m, en.w] (V.int .i64 y)) (c : t.op = 16) : Gives 38 [L (l.map Tm.c), I i, en.w] (V.int .i64 (twoI t.op x y)) := by
  have hN := ris_ev (decide (x ≤ y))
  have hlt : i < l.length := (List.getElem?_eq_some_iff.1 ht).1
  have hlt' : (i : Int) < l.length := by omega
  have hti : l[i] = t := (List.getElem?_eq_some_iff.1 ht).2
  refine .intro Tryz.func38 (by kernel_rfl) ((hB.and (hA.and (hA2.and hN))).imp fun k ⟨hB, hA, hA2, hN⟩ ro gl => ?_)
  obtain ⟨op, n, nm⟩ := t
  simp only at c ⊢
  simp [En.w, En.ws] at hA hA2
  subst c
  unfold twoI
  simp -implicitDefEqProofs [Tryz.f38, En.w, En.ws, Tm.c, hlt, hlt', hti, hB, hA, hA2, hN]
theorem rAt_17 (en : En) (t : Tm) (l : List Tm) (i j m : Nat) (ht : l[i]? = some t) (x y : Int) (hx : -1000000 ≤ x ∧ x ≤ 1000000) (hy : -1000000 ≤ y ∧ y ≤ 1000000) (hB : Gives 71 [L (l.map Tm.c), I i] (.c (L [iD j, iD m]))) (hA : Gives 38 [L (l.map Tm.c), I j, en.w] (V.int .i64 x)) (hA2 : Gives 38 [L (l.map Tm.c), I m, en.w] (V.int .i64 y)) (c : t.op = 17) : Gives 38 [L (l.map Tm.c), I i, en.w] (V.int .i64 (twoI t.op x y)) := by
  have hN := ris_ev (decide (y < x))
  have hlt : i < l.length := (List.getElem?_eq_some_iff.1 ht).1
  have hlt' : (i : Int) < l.length := by omega
  have hti : l[i] = t := (List.getElem?_eq_some_iff.1 ht).2
  refine .intro Tryz.func38 (by kernel_rfl) ((hB.and (hA.and (hA2.and hN))).imp fun k ⟨hB, hA, hA2, hN⟩ ro gl => ?_)
  obtain ⟨op, n, nm⟩ := t
  simp only at c ⊢
  simp [En.w, En.ws] at hA hA2
  subst c
  unfold twoI
  simp -implicitDefEqProofs [Tryz.f38, En.w, En.ws, Tm.c, hlt, hlt', hti, hB, hA, hA2, hN]
theorem rAt_18 (en : En) (t : Tm) (l : List Tm) (i j m : Nat) (ht : l[i]? = some t) (x y : Int) (hx : -1000000 ≤ x ∧ x ≤ 1000000) (hy : -1000000 ≤ y ∧ y ≤ 1000000) (hB : Gives 71 [L (l.map Tm.c), I i] (.c (L [iD j, iD m]))) (hA : Gives 38 [L (l.map Tm.c), I j, en.w] (V.int .i64 x)) (hA2 : Gives 38 [L (l.map Tm.c), I m, en.w] (V.int .i64 y)) (c : t.op = 18) : Gives 38 [L (l.map Tm.c), I i, en.w] (V.int .i64 (twoI t.op x y)) := by
  have hN := ris_ev (decide (y ≤ x))
  have hlt : i < l.length := (List.getElem?_eq_some_iff.1 ht).1
  have hlt' : (i : Int) < l.length := by omega
  have hti : l[i] = t := (List.getElem?_eq_some_iff.1 ht).2
  refine .intro Tryz.func38 (by kernel_rfl) ((hB.and (hA.and (hA2.and hN))).imp fun k ⟨hB, hA, hA2, hN⟩ ro gl => ?_)
  obtain ⟨op, n, nm⟩ := t
  simp only at c ⊢
  simp [En.w, En.ws] at hA hA2
  subst c
  unfold twoI
  simp -implicitDefEqProofs [Tryz.f38, En.w, En.ws, Tm.c, hlt, hlt', hti, hB, hA, hA2, hN]
theorem rAt_19 (en : En) (t : Tm) (l : List Tm) (i j m : Nat) (ht : l[i]? = some t) (x y : Int) (hx : -1000000 ≤ x ∧ x ≤ 1000000) (hy : -1000000 ≤ y ∧ y ≤ 1000000) (hB : Gives 71 [L (l.map Tm.c), I i] (.c (L [iD j, iD m]))) (hA : Gives 38 [L (l.map Tm.c), I j, en.w] (V.int .i64 x)) (hA2 : Gives 38 [L (l.map Tm.c), I m, en.w] (V.int .i64 y)) (hb : x = 0 ∨ x = 1) (hc : y = 0 ∨ y = 1) (c : t.op = 19) : Gives 38 [L (l.map Tm.c), I i, en.w] (V.int .i64 (twoI t.op x y)) := by
  have hN := ris_ev (decide (x = 1 ∧ y = 1))
  have hlt : i < l.length := (List.getElem?_eq_some_iff.1 ht).1
  have hlt' : (i : Int) < l.length := by omega
  have hti : l[i] = t := (List.getElem?_eq_some_iff.1 ht).2
  refine .intro Tryz.func38 (by kernel_rfl) ((hB.and (hA.and (hA2.and hN))).imp fun k ⟨hB, hA, hA2, hN⟩ ro gl => ?_)
  obtain ⟨op, n, nm⟩ := t
  simp only at c ⊢
  simp [En.w, En.ws] at hA hA2
  subst c
  unfold twoI
  rcases hb with rfl | rfl <;> rcases hc with rfl | rfl
  all_goals
    simp [bitI] at hN
    simp -implicitDefEqProofs [Tryz.f38, En.w, En.ws, Tm.c, hlt, hlt', hti, hB, hA, hA2, hN]
theorem rAt_20 (en : En) (t : Tm) (l : List Tm) (i j m : Nat) (ht : l[i]? = some t) (x y : Int) (hx : -1000000 ≤ x ∧ x ≤ 1000000) (hy : -1000000 ≤ y ∧ y ≤ 1000000) (hB : Gives 71 [L (l.map Tm.c), I i] (.c (L [iD j, iD m]))) (hA : Gives 38 [L (l.map Tm.c), I j, en.w] (V.int .i64 x)) (hA2 : Gives 38 [L (l.map Tm.c), I m, en.w] (V.int .i64 y)) (hb : x = 0 ∨ x = 1) (hc : y = 0 ∨ y = 1) (c : t.op = 20) : Gives 38 [L (l.map Tm.c), I i, en.w] (V.int .i64 (twoI t.op x y)) := by
  have hN := ris_ev (decide (x = 1 ∨ y = 1))
  have hlt : i < l.length := (List.getElem?_eq_some_iff.1 ht).1
  have hlt' : (i : Int) < l.length := by omega
  have hti : l[i] = t := (List.getElem?_eq_some_iff.1 ht).2
  refine .intro Tryz.func38 (by kernel_rfl) ((hB.and (hA.and (hA2.and hN))).imp fun k ⟨hB, hA, hA2, hN⟩ ro gl => ?_)
  obtain ⟨op, n, nm⟩ := t
  simp only at c ⊢
  simp [En.w, En.ws] at hA hA2
  subst c
  unfold twoI
  rcases hb with rfl | rfl <;> rcases hc with rfl | rfl
  all_goals
    simp [bitI] at hN
    simp -implicitDefEqProofs [Tryz.f38, En.w, En.ws, Tm.c, hlt, hlt', hti, hB, hA, hA2, hN]
end Go.Proofs.YtkklkkppedociaaGreat.Ev
