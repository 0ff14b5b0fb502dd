/- Layer 7: At, the document's: leaves, one below. -/
import Derived.Test.YtkklkkppedociaaGreatPkEvaB
set_option linter.unusedVariables false
set_option linter.unusedSimpArgs false
set_option maxRecDepth 100000
set_option maxHeartbeats 4000000
namespace Go.Proofs.YtkklkkppedociaaGreat.Ev
open Go Go.RowKit

theorem near_id {x : Int} (h : -1000000 ≤ x ∧ x ≤ 1000000) : near x = x := by
  unfold near clamp
  rw [if_neg (by omega), if_neg (by omega)]
theorem rAt_leaf (en : En) (hv : en.vars.length ≤ 4) (hi : en.ins.length < 1000000) (t : Tm) (hw : arity t.op = 0) (l : List Tm) (i : Nat) (ht : l[i]? = some t) (hp : t.op = 2 → 0 ≤ placeV en.vars t.name) (hB : Gives 71 [L (l.map Tm.c), I i] (.c (L []))) : Gives 38 [L (l.map Tm.c), I i, en.w] (V.int .i64 (leafI en t)) := by
  have h1 := rvPlace_ev en t.name (by omega)
  have h2 := rPlace_ev en.ins t.name (by omega)
  have h3 := ris_ev (decide (0 ≤ place en.ins t.name 0))
  have h5 := rNear_ev (en.vals.get (placeV en.vars t.name))
  have hlt : i < l.length := (List.getElem?_eq_some_iff.1 ht).1
  have hlt' : (i : Int) < l.length := by omega
  have hti : l[i] = t := (List.getElem?_eq_some_iff.1 ht).2
  refine .intro Tryz.func38 (by kernel_rfl) ((hB.and (h1.and (h2.and (h3.and h5)))).imp fun k ⟨hB, h1, h2, h3, h5⟩ ro gl => ?_)
  obtain ⟨op, n, nm⟩ := t
  unfold leafI
  simp only at hw hp h1 h2 h3 h5 ⊢
  rcases arity0_op hw with c | c | c | c | c
  · simp -implicitDefEqProofs [Tryz.f38, En.w, En.ws, Tm.c, hlt, hlt', hti, hB, c]
  · have hp := hp c
    have hp2 := (placeV_lt4 hp).2
    have hr : 0 ≤ placeV en.vars nm ∧ placeV en.vars nm < 4 := ⟨hp, by omega⟩
    simp [En.w, En.ws] at h1
    generalize placeV en.vars nm = p at hr h1 h5
    have hi : p = 0 ∨ p = 1 ∨ p = 2 ∨ p = 3 := by omega
    rcases hi with rfl | rfl | rfl | rfl
    all_goals
      simp [Q4.get] at h5
      simp -implicitDefEqProofs [Tryz.f38, En.w, En.ws, Tm.c, hlt, hlt', hti, hB, c, h1, h5, Q4.get]
  · simp -implicitDefEqProofs [Tryz.f38, En.w, En.ws, Tm.c, hlt, hlt', hti, hB, c, bitI]
  · simp -implicitDefEqProofs [Tryz.f38, En.w, En.ws, Tm.c, hlt, hlt', hti, hB, c, bitI]
  · generalize place en.ins nm 0 = q at h2 h3 ⊢
    simp -implicitDefEqProofs [Tryz.f38, En.w, En.ws, Tm.c, hlt, hlt', hti, hB, c, h2, h3]
theorem rAt_one (en : En) (t : Tm) (hw : arity t.op = 1) (l : List Tm) (i j : Nat) (ht : l[i]? = some t) (x : Int) (hx : -1000000 ≤ x ∧ x ≤ 1000000) (hb : t.op = 12 → x = 0 ∨ x = 1) (hB : Gives 71 [L (l.map Tm.c), I i] (.c (L [iD j]))) (hA : Gives 38 [L (l.map Tm.c), I j, en.w] (V.int .i64 x)) : Gives 38 [L (l.map Tm.c), I i, en.w] (V.int .i64 (oneI t.op x)) := by
  have h3 := ris_ev (decide (x = 0))
  have hlt : i < l.length := (List.getElem?_eq_some_iff.1 ht).1
  have hlt' : (i : Int) < l.length := by omega
  have hti : l[i] = t := (List.getElem?_eq_some_iff.1 ht).2
  refine .intro Tryz.func38 (by kernel_rfl) ((hB.and (hA.and h3)).imp fun k ⟨hB, hA, h3⟩ ro gl => ?_)
  obtain ⟨op, n, nm⟩ := t
  unfold oneI
  simp only at hw hb ⊢
  simp [En.w, En.ws] at hA
  rcases arity1_op hw with c | c
  · have w : IntKind.i64.wrap (-x) = -x := i64w _ (by omega)
    have w2 : IntKind.i64.wrap (0 - x) = -x := by rw [i64w _ (by omega)]; omega
    have e : near (near 0 - near x) = -x := by rw [near_id (x := 0) (by omega), near_id hx, near_id (by omega)]; omega
    rw [if_pos c, e]
    simp -implicitDefEqProofs [Tryz.f38, En.w, En.ws, Tm.c, hlt, hlt', hti, hB, hA, c, w, w2]
  · rw [if_neg (by omega)]
    rcases hb c with rfl | rfl
    · simp [bitI] at h3
      simp -implicitDefEqProofs [Tryz.f38, En.w, En.ws, Tm.c, hlt, hlt', hti, hB, hA, c, h3]
    · simp [bitI] at h3
      simp -implicitDefEqProofs [Tryz.f38, En.w, En.ws, Tm.c, hlt, hlt', hti, hB, hA, c, h3]
end Go.Proofs.YtkklkkppedociaaGreat.Ev
