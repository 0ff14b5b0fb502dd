/- Layer 8, the document's: one act; the loop over a variable's range. -/
import Derived.Test.YtkklkkppedociaaGreatPkRAtD
import Derived.Test.YtkklkkppedociaaGreatPkRunA
import Derived.Test.YtkklkkppedociaaGreatPkActA
import Derived.Test.YtkklkkppedociaaGreatPkAim
set_option linter.unusedVariables false
set_option linter.unusedSimpArgs false
set_option maxRecDepth 100000
set_option maxHeartbeats 4000000
namespace Go.Proofs.YtkklkkppedociaaGreat.Ev
open Go Go.RowKit

theorem rAtV_ev (en : En) (hi : en.ins.length < 1000000) (l : List Tm) (hl : l.length < 1000000) (h0 : evalE l en.vars = 0) : Gives 38 [L (l.map Tm.c), I 0, en.w] (V.int .i64 (valV l en)) := by
  unfold evalE at h0
  split at h0
  · cases h0
  rename_i c4
  split at h0
  · exact absurd h0 (by assumption)
  rename_i c5
  split at h0
  · cases h0
  rename_i c6
  split at h0
  · cases h0
  rename_i c7
  obtain ⟨e, e1, e2, e3, e4, e5⟩ := checkV_tree (by simpa using c5)
  have hp : ∀ t ∈ e.flat, t.op = 2 → 0 ≤ placeV en.vars t.name := fun t ht h2 => by
    refine Decidable.byContradiction fun hn => c7 ?_
    unfold noneV
    rw [List.any_eq_true]
    exact ⟨t, e2 ▸ ht, by simp; exact ⟨h2, by omega⟩⟩
  have hty : e.ty ≠ 0 := by rw [← tyV_eq e1 e2 (by rw [e2]; exact e4)]; exact c6
  rw [valV_eq e1 e2]
  have := rAt_ev en (by omega) hi e e1 e3 hty hp l 0 (e2 ▸ Tr.At.root e) hl
  simpa using this
theorem rTypeV_ev (l : List Tm) (vs : List Vr) (hl : l.length < 1000000) (h0 : evalE l vs = 0) : Gives 36 [L (l.map Tm.c), I 0] (V.int .i64 (tyV l)) := by
  unfold evalE at h0
  split at h0
  · cases h0
  split at h0
  · exact absurd h0 (by assumption)
  rename_i c5
  obtain ⟨e, e1, e2, e3, e4, e5⟩ := checkV_tree (by simpa using c5)
  have h2 := rType_ev e e1 l 0 (e2 ▸ Tr.At.root e) hl
  rw [← tyV_eq e1 e2 (by rw [e2]; exact e4)] at h2
  simpa using h2
/-- Values that are put together. -/
def Frm (out : List Q4) (x : W) : Prop := (out = [] ∧ x = .full []) ∨ x = .d (.sl (out.map Q4.r))
abbrev Vr.cells (v : Vr) : List W := [.d (.str v.name), .d (.int .i64 v.lo), .d (.int .i64 v.hi), .d (.int .i64 v.init)]
def r1S (a : Ac) (en : En) (j : Nat) (v : Vr) (q : Q4) (now : List Q4) (x : W) (i : Nat) (gl : List (List W)) (ro : Nat) : St :=
  st 130 [(2, .c (L (now.map Q4.r))), (3, .c (.w (.box 3 0))), (4, .c (.w (.box 4 0))), (8, V.int .i64 j), (9, .c (.w (.box 9 0))), (11, .c (.w x)), (12, V.int .i64 i)] [(3, [.d (.str a.name), .d (.bool a.any), .d (.sl (a.expr.map Tm.c))]), (4, (en.at q).ws), (9, v.cells)] [] gl ro
def r1I (a : Ac) (en : En) (j : Nat) (v : Vr) (q : Q4) (now : List Q4) (x : W) (i kk : Nat) (gl : List (List W)) (ro : Nat) : St :=
  st 130 [(2, .c (L (now.map Q4.r))), (3, .c (.w (.box 3 0))), (4, .c (.w (.box 4 0))), (8, V.int .i64 j), (9, .c (.w (.box 9 0))), (11, .c (.w x)), (12, V.int .i64 i), (13, V.int .i64 kk)] [(3, [.d (.str a.name), .d (.bool a.any), .d (.sl (a.expr.map Tm.c))]), (4, (en.at q).ws), (9, v.cells)] [] gl ro
theorem r1_in_round (a : Ac) (en : En) (j : Nat) (hj4 : j < 4) (v : Vr) (hw : -9223372036854775808 ≤ v.lo ∧ v.hi ≤ 9223372036854775807) (hsp : v.hi - v.lo ≤ 63) (now : List Q4) (hnow : now.length < 1000000) (i : Nat) (q : Q4) (hq : now[i]? = some q) (kk : Nat) (hk : (kk : Int) ≤ v.hi - v.lo) (out : List Q4) (hout : out.length < 1000000) :
    Evt fun k => ∀ N x gl ro, Frm out x → ((evC Tryz.prog cf 20 (ev k) N (bodyOf Tryz.f20 1)) (r1I a en j v q now x i kk gl ro)).map (hv [2, 3, 4, 8, 9, 11, 12, 13]) = some (.normal, r1I a en j v q now (.d (.sl ((withQ out (q.set j (v.lo + kk))).map Q4.r))) i (kk + 1) gl ro) := by
  refine (rWith_ev out (q.set j (v.lo + kk)) hout).imp fun k h1 N x gl ro hx => ?_
  have hlt : i < now.length := (List.getElem?_eq_some_iff.1 hq).1
  have hlt' : (i : Int) < now.length := by omega
  have hxx : now[i] = q := (List.getElem?_eq_some_iff.1 hq).2
  have w1 : IntKind.i64.wrap (v.hi - v.lo) = v.hi - v.lo := i64w _ (by omega)
  have w2 : IntKind.i64.wrap (v.lo + kk) = v.lo + kk := i64w _ (by omega)
  have w3 : IntKind.i64.wrap ((kk : Int) + 1) = (kk : Int) + 1 := i64w _ (by omega)
  generalize withQ out (q.set j (v.lo + kk)) = out' at h1 ⊢
  have hj : j = 0 ∨ j = 1 ∨ j = 2 ∨ j = 3 := by omega
  rcases hx with ⟨rfl, rfl⟩ | rfl
  · rcases hj with rfl | rfl | rfl | rfl
    all_goals
      simp [Q4.w, Q4.set] at h1
      simp -implicitDefEqProofs [r1I, En.ws, En.at, bodyOf, loopsOf, hv, Tryz.f20, hlt, hlt', hxx, Q4.r, w1, w2, w3, hk, h1]
  · rcases hj with rfl | rfl | rfl | rfl
    all_goals
      simp [Q4.w, Q4.set] at h1
      simp -implicitDefEqProofs [r1I, En.ws, En.at, bodyOf, loopsOf, hv, Tryz.f20, hlt, hlt', hxx, Q4.r, w1, w2, w3, hk, h1]
theorem r1_in_exit (call : Caller) (N : Nat) (a : Ac) (en : En) (j : Nat) (v : Vr) (hw : -9223372036854775808 ≤ v.lo ∧ v.hi ≤ 9223372036854775807) (hsp : v.lo ≤ v.hi ∧ v.hi - v.lo ≤ 63) (now : List Q4) (i : Nat) (q : Q4) (kk : Nat) (hk : (kk : Int) = v.hi - v.lo + 1) (out : List Q4) (x : W) (gl : List (List W)) (ro : Nat) (hx : Frm out x) :
    ((evC Tryz.prog cf 20 call N (bodyOf Tryz.f20 1)) (r1I a en j v q now x i kk gl ro)).map (hv [2, 3, 4, 8, 9, 11, 12, 13]) = some (.exit 2, r1I a en j v q now x i kk gl ro) := by
  have w1 : IntKind.i64.wrap (v.hi - v.lo) = v.hi - v.lo := i64w _ (by omega)
  have hk' : ¬ (kk : Int) ≤ v.hi - v.lo := by omega
  rcases hx with ⟨rfl, rfl⟩ | rfl
  all_goals simp -implicitDefEqProofs [r1I, En.ws, En.at, bodyOf, loopsOf, hv, Tryz.f20, w1, hk']
end Go.Proofs.YtkklkkppedociaaGreat.Ev
