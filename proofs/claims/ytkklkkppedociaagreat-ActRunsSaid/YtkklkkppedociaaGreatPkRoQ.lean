/- Layer 8, the document's: a round of one act. -/
import Derived.Test.YtkklkkppedociaaGreatPkROne
import Derived.Test.YtkklkkppedociaaGreatPkRunA
set_option linter.unusedVariables false
set_option linter.unusedSimpArgs false
set_option maxRecDepth 100000
set_option maxHeartbeats 4000000
namespace Go.Proofs.YtkklkkppedociaaGreat.Ev
open Go Go.RowKit

theorem r1_nC (a : Ac) (en : En) (j : Nat) (hj4 : j < 4) (v : Vr) (now : List Q4) (hnow : now.length < 1000000) (i : Nat) (q : Q4) (hq : now[i]? = some q) (ha : a.any = false) (out out' : List Q4) (y : Int) (hA : Gives 38 [L (a.expr.map Tm.c), I 0, (en.at q).w] (V.int .i64 y)) (hW : Gives 37 [L (out.map Q4.r), (q.set j (v.hi)).w] (.c (L (out'.map Q4.r)))) (c1 : ¬ y < v.lo) (c2 : v.hi < y) :
    Evt fun k => ∀ N x q0 gl ro, Frm out x → ((evC Tryz.prog cf 20 (ev k) N (bodyOf Tryz.f20 0)) (r1S a en j v q0 now x i gl ro)).map (hv [2, 3, 4, 8, 9, 11, 12]) = some (.normal, r1S a en j v q now (.d (.sl (out'.map Q4.r))) (i + 1) gl ro) := by
  have hlt : i < now.length := (List.getElem?_eq_some_iff.1 hq).1
  have hlt' : (i : Int) < now.length := by omega
  have hxx : now[i] = q := (List.getElem?_eq_some_iff.1 hq).2
  have w : IntKind.i64.wrap ((i : Int) + 1) = (i : Int) + 1 := i64w _ (by omega)
  refine (hA.and hW).imp fun k ⟨g1, g2⟩ N x q0 gl ro hx => ?_
  clear hA hW
  have hj : j = 0 ∨ j = 1 ∨ j = 2 ∨ j = 3 := by omega
  obtain ⟨nm, an, ex⟩ := a
  simp only at ha g1
  subst ha
  simp [En.w, En.ws, En.at] at g1
  rcases hx with ⟨rfl, rfl⟩ | rfl <;> rcases hj with rfl | rfl | rfl | rfl
  all_goals
    simp [Q4.w, Q4.set] at g2
    simp -implicitDefEqProofs [r1S, En.ws, En.at, bodyOf, loopsOf, hv, Tryz.f20, hlt, hlt', hxx, Q4.r, g1, g2, c1, c2, w]
end Go.Proofs.YtkklkkppedociaaGreat.Ev

/- Layer 8, the document's: a round of one act. -/
set_option linter.unusedVariables false
set_option linter.unusedSimpArgs false
set_option maxRecDepth 100000
set_option maxHeartbeats 4000000
namespace Go.Proofs.YtkklkkppedociaaGreat.Ev
open Go Go.RowKit

theorem r1_nD (a : Ac) (en : En) (j : Nat) (hj4 : j < 4) (v : Vr) (now : List Q4) (hnow : now.length < 1000000) (i : Nat) (q : Q4) (hq : now[i]? = some q) (ha : a.any = false) (out out' : List Q4) (y : Int) (hA : Gives 38 [L (a.expr.map Tm.c), I 0, (en.at q).w] (V.int .i64 y)) (hW : Gives 37 [L (out.map Q4.r), (q.set j (y)).w] (.c (L (out'.map Q4.r)))) (c1 : ¬ y < v.lo) (c2 : ¬ v.hi < y) :
    Evt fun k => ∀ N x q0 gl ro, Frm out x → ((evC Tryz.prog cf 20 (ev k) N (bodyOf Tryz.f20 0)) (r1S a en j v q0 now x i gl ro)).map (hv [2, 3, 4, 8, 9, 11, 12]) = some (.normal, r1S a en j v q now (.d (.sl (out'.map Q4.r))) (i + 1) gl ro) := by
  have hlt : i < now.length := (List.getElem?_eq_some_iff.1 hq).1
  have hlt' : (i : Int) < now.length := by omega
  have hxx : now[i] = q := (List.getElem?_eq_some_iff.1 hq).2
  have w : IntKind.i64.wrap ((i : Int) + 1) = (i : Int) + 1 := i64w _ (by omega)
  refine (hA.and hW).imp fun k ⟨g1, g2⟩ N x q0 gl ro hx => ?_
  clear hA hW
  have hj : j = 0 ∨ j = 1 ∨ j = 2 ∨ j = 3 := by omega
  obtain ⟨nm, an, ex⟩ := a
  simp only at ha g1
  subst ha
  simp [En.w, En.ws, En.at] at g1
  rcases hx with ⟨rfl, rfl⟩ | rfl <;> rcases hj with rfl | rfl | rfl | rfl
  all_goals
    simp [Q4.w, Q4.set] at g2
    simp -implicitDefEqProofs [r1S, En.ws, En.at, bodyOf, loopsOf, hv, Tryz.f20, hlt, hlt', hxx, Q4.r, g1, g2, c1, c2, w]
end Go.Proofs.YtkklkkppedociaaGreat.Ev
