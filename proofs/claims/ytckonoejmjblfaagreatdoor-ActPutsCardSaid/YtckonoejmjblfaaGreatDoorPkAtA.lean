/- Layer 7: a stack of numbers. -/
import Derived.Test.YtckonoejmjblfaaGreatDoorPkEvaA
import Derived.Test.YtckonoejmjblfaaGreatDoorPkEvOR
import Derived.Test.YtckonoejmjblfaaGreatDoorPkEvaB
import Derived.Test.YtckonoejmjblfaaGreatDoorPkIter
set_option linter.unusedVariables false
set_option linter.unusedSimpArgs false
set_option maxRecDepth 100000
set_option maxHeartbeats 4000000
namespace Go.Proofs.YtckonoejmjblfaaGreatDoor.Ev
open Go Go.RowKit

/-- Object o is a stack; the top comes first in s. All of it lies from lo on. -/
def Stk (lo : Nat) (gl : List (List W)) (o : Nat) (s : List Int) : Prop :=
  lo ≤ o ∧ ((s = [] ∧ gl[o]? = some [.full []]) ∨ ∃ o2 m cs, gl[o]? = some [.gsl o2 0 s.length m 1] ∧ lo ≤ o2 ∧ o2 ≠ o ∧ gl[o2]? = some (cI s.reverse ++ cs) ∧ s.length + cs.length = m ∧ 0 < m)
def Keeps (lo : Nat) (gl gl' : List (List W)) : Prop := gl.length ≤ gl'.length ∧ ∀ j, j < lo → gl'[j]? = gl[j]?
theorem push_ev : Evt fun k => ∀ (s : List Int) (x : Int) ro lo (gl : List (List W)) o, s.length < 1000 → Stk lo gl o s → ro ≤ lo → lo ≤ gl.length → ∃ gl', ev k 233 [.w (.glo o 0), I x] ro gl = some (.tup [], gl') ∧ Stk lo gl' o (x :: s) ∧ Keeps lo gl gl' := by
  refine Evt.up (fun _ q => ∀ (s : List Int) (x : Int) ro lo (gl : List (List W)) o, s.length < 1000 → Stk lo gl o s → ro ≤ lo → lo ≤ gl.length → ∃ gl', q [.w (.glo o 0), I x] ro gl = some (.tup [], gl') ∧ Stk lo gl' o (x :: s) ∧ Keeps lo gl gl') Tryz.func233 (by kernel_rfl) (Evt.of fun k s x ro lo gl o hs hst hro hlo => ?_) fun _ _ h => h
  obtain ⟨h1, h2⟩ := hst
  rcases h2 with ⟨rfl, ho⟩ | ⟨o2, m, cs, ho, hl2, hne, ho2, hm, hm0⟩
  · have hol : o < gl.length := (List.getElem?_eq_some_iff.1 ho).1
    have hro' : ¬ o < ro := by omega
    refine ⟨(gl ++ [[W.d (.int .i64 x)]]).set o [.gsl gl.length 0 1 1 1], ?_, ⟨h1, .inr ⟨gl.length, 1, [], ?_, hlo, by omega, ?_, rfl, by omega⟩⟩, by simp, fun j hj => ?_⟩
    · have ha : (gl ++ [[W.d (.int .i64 x)]])[o]? = some [.full []] := by rw [List.getElem?_append_left hol, ho]
      simp -implicitDefEqProofs [Tryz.f233, ho, hro', ha]
    · rw [List.getElem?_set, if_pos rfl, if_pos (by simp; omega)]; rfl
    · rw [List.getElem?_set_ne (by omega)]; simp [cI]
    · rw [List.getElem?_set_ne (by omega), List.getElem?_append_left (by omega)]
  · have hol : o < gl.length := (List.getElem?_eq_some_iff.1 ho).1
    have hol2 : o2 < gl.length := (List.getElem?_eq_some_iff.1 ho2).1
    have hro' : ¬ o < ro := by omega
    have hro2 : ro ≤ o2 := by omega
    by_cases hroom : s.length + 1 ≤ m
    · obtain ⟨c, cs, rfl⟩ : ∃ c r, cs = c :: r := by
        cases cs with
        | nil => simp at hm; omega
        | cons c r => exact ⟨c, r, rfl⟩
      refine ⟨(gl.set o2 (cI s.reverse ++ W.d (.int .i64 x) :: cs)).set o [.gsl o2 0 (s.length + 1) m 1], ?_, ⟨h1, .inr ⟨o2, m, cs, ?_, hl2, hne, ?_, ?_, hm0⟩⟩, by simp, fun j hj => ?_⟩
      · have hd : List.drop (s.length + 1) (cI s.reverse ++ c :: cs) = cs := by
          rw [List.drop_append, List.drop_of_length_le (by simp)]
          simp
        have hroom' : (s.length : Int) + 1 ≤ m := by omega
        have hnb : (s.length + 1) * 8 ≤ 140737488355328 := by omega
        have hml : s.length + 1 ≤ 9223372036854775807 := by omega
        have ha : (gl.set o2 (cI s.reverse ++ W.d (.int .i64 x) :: cs))[o]? = some [.gsl o2 0 s.length m 1] := by rw [List.getElem?_set_ne hne, ho]
        simp -implicitDefEqProofs [Tryz.f233, ho, ho2, hro', hro2, hroom, hd, hnb, hml, ha]
      · rw [List.getElem?_set, if_pos rfl, if_pos (by simp; omega)]; rfl
      · rw [List.getElem?_set_ne (Ne.symm hne), List.getElem?_set, if_pos rfl, if_pos hol2]; simp [cI]
      · simp at hm ⊢; omega
      · rw [List.getElem?_set_ne (by omega), List.getElem?_set_ne (by omega)]
    · have hcs : cs = [] := by
        cases cs with
        | nil => rfl
        | cons c r => simp at hm; omega
      subst hcs
      have hms : m = s.length := by simp at hm; omega
      subst hms
      rw [List.append_nil] at ho2
      have hnb : (s.length + 1) * 8 ≤ 140737488355328 := by omega
      have hml : s.length + 1 ≤ 9223372036854775807 := by omega
      have htk : (cI s.reverse).take s.length = cI s.reverse := List.take_of_length_le (by simp [cI_len])
      have hcl : (cI s.reverse).length = s.length := by simp [cI_len]
      refine ⟨(gl.set o2 [] ++ [cI s.reverse ++ [W.d (.int .i64 x)]]).set o [.gsl gl.length 0 (s.length + 1) (s.length + 1) 1], ?_, ⟨h1, .inr ⟨gl.length, s.length + 1, [], ?_, hlo, by omega, ?_, rfl, by omega⟩⟩, by simp, fun j hj => ?_⟩
      · have ha : (gl.set o2 [] ++ [cI s.reverse ++ [W.d (.int .i64 x)]])[o]? = some [.gsl o2 0 s.length s.length 1] := by rw [List.getElem?_append_left (by simpa using hol), List.getElem?_set_ne hne, ho]
        simp -implicitDefEqProofs [Tryz.f233, ho, ho2, hro', hro2, hnb, hml, htk, hcl, hm0, hroom, ha]
      · rw [List.getElem?_set, if_pos rfl, if_pos (by simp; omega)]; rfl
      · rw [List.getElem?_set_ne (by omega), List.getElem?_append_right (by simp)]; simp [cI]
      · rw [List.getElem?_set_ne (by omega), List.getElem?_append_left (by simp; omega), List.getElem?_set_ne (by omega)]
theorem pop_ev : Evt fun k => ∀ (s : List Int) (x : Int) ro lo (gl : List (List W)) o, s.length < 1000 → Stk lo gl o (x :: s) → ro ≤ lo → ∃ gl', ev k 235 [.w (.glo o 0)] ro gl = some (V.int .i64 x, gl') ∧ Stk lo gl' o s ∧ Keeps lo gl gl' := by
  refine Evt.up (fun _ q => ∀ (s : List Int) (x : Int) ro lo (gl : List (List W)) o, s.length < 1000 → Stk lo gl o (x :: s) → ro ≤ lo → ∃ gl', q [.w (.glo o 0)] ro gl = some (V.int .i64 x, gl') ∧ Stk lo gl' o s ∧ Keeps lo gl gl') Tryz.func235 (by kernel_rfl) (Evt.of fun k s x ro lo gl o hs hst hro => ?_) fun _ _ h => h
  obtain ⟨h1, h2⟩ := hst
  rcases h2 with ⟨h, _⟩ | ⟨o2, m, cs, ho, hl2, hne, ho2, hm, hm0⟩
  · cases h
  · have hol : o < gl.length := (List.getElem?_eq_some_iff.1 ho).1
    have hro' : ¬ o < ro := by omega
    have e : cI (x :: s).reverse ++ cs = cI s.reverse ++ W.d (.int .i64 x) :: cs := by simp [cI]
    rw [e] at ho2
    simp only [List.length_cons] at ho hm
    refine ⟨gl.set o [.gsl o2 0 s.length m 1], ?_, ⟨h1, .inr ⟨o2, m, W.d (.int .i64 x) :: cs, ?_, hl2, hne, ?_, by simp; omega, hm0⟩⟩, by simp, fun j hj => ?_⟩
    · have hc : List.drop s.length (cI s.reverse ++ W.d (.int .i64 x) :: cs) = W.d (.int .i64 x) :: cs := List.drop_left' (by simp)
      have w2 : IntKind.i64.wrap (s.length : Int) = s.length := i64w _ (by omega)
      have w : IntKind.i64.wrap (((s.length + 1 : Nat) : Int) - 1) = s.length := by rw [i64w _ (by omega)]; omega
      have w' : IntKind.i64.wrap ((s.length : Int) + 1 - 1) = s.length := by rw [i64w _ (by omega)]; omega
      have hlt : (s.length : Int) < s.length + 1 := by omega
      have hlm : s.length ≤ m := by omega
      have hlm' : (s.length : Int) ≤ m := by omega
      have hm0' : ¬ m = 0 := by omega
      have hm0'' : ¬ 0 = m := by omega
      simp -implicitDefEqProofs [Tryz.f235, ho, ho2, hro', hc, w, w', w2, hlt, hlm, hlm', hm0', hm0'']
    · rw [List.getElem?_set, if_pos rfl, if_pos hol]
    · rw [List.getElem?_set_ne (Ne.symm hne), ho2]
    · rw [List.getElem?_set_ne (by omega)]
end Go.Proofs.YtckonoejmjblfaaGreatDoor.Ev

/- Layer 7: At, the program's. -/
set_option linter.unusedVariables false
set_option linter.unusedSimpArgs false
set_option maxRecDepth 100000
set_option maxHeartbeats 4000000
namespace Go.Proofs.YtckonoejmjblfaaGreatDoor.Ev
open Go Go.RowKit

theorem Backward_ev (l : List Tm) : Evt fun k => ∀ ro gl, ev k 232 [L (l.map Tm.c)] ro gl = some (.c (.w (.fn 270 [gl.length])), gl ++ [[.d (.sl (l.map Tm.c))]]) := by
  refine Evt.up (fun _ q => ∀ ro gl, q [L (l.map Tm.c)] ro gl = some (.c (.w (.fn 270 [gl.length])), gl ++ [[.d (.sl (l.map Tm.c))]])) Tryz.func232 (by kernel_rfl) (Evt.of fun k ro gl => ?_) fun _ _ h => h
  simp -implicitDefEqProofs [Tryz.f232]
def En.ds (e : En) : List D := [.sl (e.vars.map Vr.c), .int .i64 e.vals.a, .int .i64 e.vals.b, .int .i64 e.vals.c, .int .i64 e.vals.d, .sl (e.ins.map sD)]
noncomputable abbrev atR : Code × Code := rangeOf Tryz.f183 0
/-- One round, its beginning and its body. -/
noncomputable def atRound (k N : Nat) (s : St) : Option (Ex × List (List W)) := (evC Tryz.prog cf 183 (ev k) N atR.1 s).bind fun
  | (.normal, s1) => (evC Tryz.prog cf 183 (ev k) N atR.2 s1).bind fun r => some (r.1, r.2.gl)
  | _ => none
def AtR (en : En) (t : Tm) (s s' : List Int) : Prop := Evt fun k => ∀ (j : Int) N lo gl ro o L', Stk lo gl o s → ro ≤ lo → lo ≤ gl.length → lk L' 7 = .c (.w (.glo o 0)) → lk L' 3 = .c (.w (.ref en.ds)) →
  ∃ gl', Stk lo gl' o s' ∧ Keeps lo gl gl' ∧ atRound k N (st 52 ((20, .c (.agg (t.c.map .d))) :: (19, .c (.w (.d (.int .i64 j)))) :: L') [] [] gl ro) = some (.normal, gl')
theorem Keeps.trans {lo : Nat} {a b c : List (List W)} (h : Keeps lo a b) (k : Keeps lo b c) : Keeps lo a c := ⟨Nat.le_trans h.1 k.1, fun j hj => by rw [k.2 j hj, h.2 j hj]⟩
theorem at_leaf (en : En) (hv : en.vars.length ≤ 4) (hi : en.ins.length < 1000000) (t : Tm) (s : List Int) (hs : s.length < 900) (hw : arity t.op = 0) (ht : t.op = 2 → 0 ≤ placeV en.vars t.name) : AtR en t s (leafI en t :: s) := by
  refine ((leaf_ev en t hv hi ht).and (push_ev.and Arity_ev)).imp fun k ⟨h1, h2, h3⟩ j N lo gl ro o L' hst hro hlo h7 h3' => ?_
  obtain ⟨g, e1, e2, e3⟩ := h2 s (leafI en t) ro lo gl o (by omega) hst hro hlo
  refine ⟨g, e2, e3, ?_⟩
  have h4 := fun ro gl => h3 t.op ro gl
  rw [hw] at h4
  generalize leafI en t = v at h1 e1
  clear h2 h3 hst e2 e3
  have c3 : ¬ t.op = 3 := by rcases arity0_op hw with h | h | h | h | h <;> omega
  have c12 : ¬ t.op = 12 := by rcases arity0_op hw with h | h | h | h | h <;> omega
  obtain ⟨op, n, nm⟩ := t
  simp only at h4 c3 c12
  simp [Tm.w, En.w, En.ws] at h1
  unfold atRound
  simp -implicitDefEqProofs [rangeOf, rangesOf, Tryz.f183, Tm.c, h7, h3', En.ds, c3, c12, h4, h1, e1]
theorem at_one (en : En) (t : Tm) (x : Int) (s : List Int) (hs : s.length < 900) (hw : arity t.op = 1) : AtR en t (x :: s) (onePr t.op x :: s) := by
  have hM := Minus_ev 0 x
  refine (hM.and (push_ev.and pop_ev)).imp fun k ⟨h1, h2, h3⟩ j N lo gl ro o L' hst hro hlo h7 h3' => ?_
  obtain ⟨g, e1, e2, e3⟩ := h3 s x ro lo gl o (by omega) hst hro
  obtain ⟨g2, f1, f2, f3⟩ := h2 s (onePr t.op x) ro lo g o (by omega) e2 hro (Nat.le_trans hlo e3.1)
  refine ⟨g2, f2, e3.trans f3, ?_⟩
  clear h2 h3 hst e2 e3 f2 f3
  obtain ⟨op, n, nm⟩ := t
  simp only at hw f1 ⊢
  unfold onePr at f1
  unfold atRound
  rcases arity1_op hw with c | c
  · subst c
    simp at f1
    simp -implicitDefEqProofs [rangeOf, rangesOf, Tryz.f183, Tm.c, h7, h3', En.ds, h1, e1, f1]
  · subst c
    simp at f1
    simp -implicitDefEqProofs [rangeOf, rangesOf, Tryz.f183, Tm.c, h7, h3', En.ds, e1, f1]
theorem at_two (en : En) (t : Tm) (x y : Int) (s : List Int) (hs : s.length < 900) (hw : arity t.op = 2) : AtR en t (x :: y :: s) (twoI t.op x y :: s) := by
  refine ((twoE_ev t.op x y).and (push_ev.and (pop_ev.and Arity_ev))).imp fun k ⟨h1, h2, h3, ha⟩ j N lo gl ro o L' hst hro hlo h7 h3' => ?_
  obtain ⟨g, e1, e2, e3⟩ := h3 (y :: s) x ro lo gl o (by simp; omega) hst hro
  obtain ⟨g1, d1, d2, d3⟩ := h3 s y ro lo g o (by omega) e2 hro
  obtain ⟨g2, f1, f2, f3⟩ := h2 s (twoI t.op x y) ro lo g1 o (by omega) d2 hro (Nat.le_trans hlo (Nat.le_trans e3.1 d3.1))
  refine ⟨g2, f2, e3.trans (d3.trans f3), ?_⟩
  have h4 := fun ro gl => ha t.op ro gl
  rw [hw] at h4
  generalize twoI t.op x y = v at h1 f1
  clear h2 h3 hst e2 e3 f2 f3 d2 d3 ha
  have c3 : ¬ t.op = 3 := by rcases arity2_op hw with h | h | h | h | h | h | h | h | h | h | h | h | h <;> omega
  have c12 : ¬ t.op = 12 := by rcases arity2_op hw with h | h | h | h | h | h | h | h | h | h | h | h | h <;> omega
  obtain ⟨op, n, nm⟩ := t
  simp only at h4 c3 c12 h1
  unfold atRound
  simp -implicitDefEqProofs [rangeOf, rangesOf, Tryz.f183, Tm.c, h7, h3', En.ds, c3, c12, h4, h1, e1, d1, f1]
theorem at_step (en : En) (hv : en.vars.length ≤ 4) (hi : en.ins.length < 1000000) (t : Tm) (s s' : List Int) (hs : s.length < 900) (ht : t.op = 2 → 0 ≤ placeV en.vars t.name) (h : runT en t s = some s') : AtR en t s s' ∧ s'.length ≤ s.length + 1 := by
  unfold runT at h
  split at h
  · cases h
    exact ⟨at_leaf en hv hi t s hs (by assumption) ht, by simp⟩
  · split at h
    · split at h
      · cases h
        exact ⟨at_one en t _ _ (by simp at hs; omega) (by assumption), by simp⟩
      · cases h
    · split at h
      · split at h
        · cases h
          exact ⟨at_two en t _ _ _ (by simp at hs; omega) (by assumption), by simp⟩
        · cases h
      · cases h
theorem at_loop (en : En) (hv : en.vars.length ≤ 4) (hi : en.ins.length < 1000000) (l : List Tm) (hp : ∀ t ∈ l, t.op = 2 → 0 ≤ placeV en.vars t.name) : ∀ (m : Nat) (s s' : List Int), m ≤ l.length → runZ en (l.take m) s = some s' → s.length + m ≤ 800 →
    Evt fun k => ∀ N lo gl ro o L bx tk gl0 it, Stk lo gl o s → ro ≤ lo → lo ≤ gl.length → lk L 7 = .c (.w (.glo o 0)) → lk L 3 = .c (.w (.ref en.ds)) →
      ∃ gl', Stk lo gl' o s' ∧ rangeC Tryz.prog cf 183 (ev k) N atR [19, 20] (st 52 L bx tk gl0 ro it) (backA (l.map Tm.c) m) gl = some (.normal, gl')
  | 0, s, s', _, hr, _ => by
    simp only [List.take_zero, runZ, Option.some.injEq] at hr
    subst hr
    exact .of fun k N lo gl ro o L bx tk gl0 it hst _ _ _ _ => ⟨gl, hst, rfl⟩
  | m + 1, s, s', hm, hr, hs => by
    have ca : l[m]? = some l[m] := List.getElem?_eq_getElem (by omega)
    have ht : l.take (m + 1) = l.take m ++ [l[m]] := by rw [List.take_add_one, ca]; rfl
    have hmem := List.getElem_mem (l := l) (n := m) (by omega)
    generalize l[m] = t at ca ht hmem
    rw [ht, runS_app, Option.bind_eq_some_iff] at hr
    obtain ⟨s1, h1, hr⟩ := hr
    simp only [runZ, Option.bind_some] at h1
    obtain ⟨r1, r2⟩ := at_step en hv hi t s s1 (by omega) (hp t hmem) h1
    refine (r1.and (at_loop en hv hi l hp m s1 s' (by omega) hr (by omega))).imp fun k ⟨r1, ih⟩ N lo gl ro o L bx tk gl0 it hst hro hlo h7 h3 => ?_
    obtain ⟨g, g1, g2, g3⟩ := r1 (m : Int) N lo gl ro o (calmL L) hst hro hlo (by rw [calmL_lk, h7]; rfl) (by rw [calmL_lk, h3]; rfl)
    obtain ⟨g', k1, k2⟩ := ih N lo g ro o L bx tk gl0 it g1 hro (Nat.le_trans hlo g2.1) h7 h3
    refine ⟨g', k1, ?_⟩
    have hb : backA (l.map Tm.c) (m + 1) = [.w (.d (.int .i64 (m : Int))), .agg (t.c.map .d)] :: backA (l.map Tm.c) m := by
      rw [backA, List.getElem?_map, ca]; rfl
    rw [hb, rangeC_cons, roundC_st (by decide)]
    have g3' : atRound k N (st 52 (psL [19, 20] [.w (.d (.int .i64 (m : Int))), .agg (t.c.map .d)] (calmL L)) [] [] gl ro) = some (.normal, g) := g3
    unfold atRound at g3'
    refine bind_go (v := (Ex.normal, g)) g3' ?_
    exact k2
/-- What an expression comes to. -/
theorem At_ev (en : En) (hi : en.ins.length < 1000000) (l : List Tm) (hs : ∀ t ∈ l, t.name.length ≤ 9223372036854775807) (hl : l.length < 1000000) (hv : en.vars.length < 1000000) : Gives 183 [L (l.map Tm.c), en.w] (.tup [I (if evalE l en.vars = 0 then valV l en else 0), I (evalE l en.vars)]) := by
  have hC := evCheck_ev l en hs hl hv
  by_cases h0 : evalE l en.vars = 0
  · rw [if_pos h0]
    have hq := h0
    unfold evalE at hq
    split at hq
    · cases hq
    rename_i c4
    split at hq
    · exact absurd hq (by assumption)
    rename_i c5
    split at hq
    · cases hq
    rename_i c6
    split at hq
    · cases hq
    rename_i c7
    obtain ⟨e, e1, e2, e3, e4, e5⟩ := checkV_tree (by simpa using c5)
    have hp : ∀ t ∈ l, t.op = 2 → 0 ≤ placeV en.vars t.name := fun t ht h2 => by
      refine Decidable.byContradiction fun hn => c7 ?_
      unfold noneV
      rw [List.any_eq_true]
      exact ⟨t, ht, by simp; exact ⟨h2, by omega⟩⟩
    have hty : e.ty ≠ 0 := by rw [← tyV_eq e1 e2 (by rw [e2]; exact e4)]; exact c6
    have hll : l.length ≤ 40 := by rw [e2]; exact e4
    have lp := at_loop en (by omega) hi l hp l.length [] [valV l en] (Nat.le_refl _) (by rw [List.take_length, valV_eq e1 e2, e2]; exact runS_tree en e e1 e3 hty []) (by simp; omega)
    rw [h0]
    rw [h0] at hC
    generalize valV l en = v at lp ⊢
    refine .intro Tryz.func183 (by kernel_rfl) ((hC.and ((Backward_ev l).and (lp.and pop_ev))).imp fun k ⟨h1, h2, h3, h4⟩ ro gl => ?_)
    have h2 := fun ro => h2 ro (gl ++ [[.full []]])
    have hall : ∀ t : Tm, t.c.length = 3 := fun t => rfl
    simp [En.w, En.ws] at h1
    simp at h2
    have tail : ∀ S : St, loopC Tryz.prog cf 0 (ev k) k .skip S = loopC Tryz.prog cf 0 (ev k) k .skip S := fun _ => rfl
    simp -implicitDefEqProofs [Tryz.f183, En.w, En.ws, h1, h2, hall]
    refine bind_ex (p := fun g => Stk gl.length g gl.length [v]) (v := fun g => (Ex.normal, g)) (h3 _ gl.length _ _ gl.length _ _ _ _ _ ?_ (Nat.le_refl _) ?_ ?_ ?_) ?_
    · refine ⟨Nat.le_refl _, .inl ⟨rfl, ?_⟩⟩
      simp
    · simp
    · simp
    · simp [En.ds]
    · intro g hg
      obtain ⟨g', f1, _⟩ := h4 [] v gl.length gl.length g gl.length (by simp) hg (Nat.le_refl _)
      simp -implicitDefEqProofs [f1]
  · rw [if_neg h0]
    generalize evalE l en.vars = e at h0 hC ⊢
    refine .intro Tryz.func183 (by kernel_rfl) (hC.imp fun k h1 ro gl => ?_)
    simp [En.w, En.ws] at h1
    simp -implicitDefEqProofs [Tryz.f183, En.w, En.ws, h1, h0]
end Go.Proofs.YtckonoejmjblfaaGreatDoor.Ev
