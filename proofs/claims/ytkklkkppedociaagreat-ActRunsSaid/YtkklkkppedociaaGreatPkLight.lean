/- Layers 7 and 8: which inputs are light. -/
import Derived.Test.YtkklkkppedociaaGreatPkActA
import Derived.Test.YtkklkkppedociaaGreatPkEvaA
set_option linter.unusedVariables false
set_option linter.unusedSimpArgs false
set_option maxRecDepth 100000
set_option maxHeartbeats 4000000
namespace Go.Proofs.YtkklkkppedociaaGreat.Ev
open Go Go.RowKit

def lightB (l : List Tm) : Bool := decide (l.length ≤ 60) && l.all fun t => decide (t.name.length ≤ 100)
def lightE (en : En) : Bool := decide (en.vars.length ≤ 20) && decide (en.ins.length ≤ 80) && ((en.ins.all fun x => decide (x.length ≤ 100)) && (en.vars.all fun x => decide (x.name.length ≤ 100)))
def lgS (en : En) (l : List Tm) (i : Nat) (gl : List (List W)) (ro : Nat) : St := st 65 [(0, .c (L (l.map Tm.c))), (3, .c (.w (.box 3 0))), (5, V.int .i64 i)] [(3, en.ws)] [] gl ro
theorem lg_loop (k : Nat) (en : En) (l : List Tm) (hl : l.length ≤ 60) (hk : l.length + 1 ≤ k) (gl : List (List W)) (ro : Nat) (S : St) (hS : S.hav [0, 3, 5] = lgS en l 0 gl ro) :
    loopA (evC Tryz.prog cf 5 (ev k) k (bodyOf Tryz.f5 0)) [0, 3, 5] [4] k S = some (if (l.all fun t => decide (t.name.length ≤ 100)) = true then (.exit 0, lgS en l l.length gl ro) else (.ret, st 65 [(4, V.bool false)] [] [] gl ro)) := by
  refine loop_by (keep := [0, 3, 5]) (res := [4]) (fun i : Nat => lgS en l i gl ro) (fun i => i ≤ l.length) (fun i => l.length - i) (fun i => if ((l.drop i).all fun t => decide (t.name.length ≤ 100)) = true then (.exit 0, lgS en l l.length gl ro) else (.ret, st 65 [(4, V.bool false)] [] [] gl ro)) ?_ k 0 S (Nat.zero_le _) (by omega) hS
  intro i hi
  by_cases hi' : i = l.length
  · subst hi'
    refine .inr (.inl ⟨0, lgS en l l.length gl ro, ?_, ?_⟩)
    · simp -implicitDefEqProofs [lgS, En.ws, bodyOf, loopsOf, hv, Tryz.f5]
    · rw [List.drop_of_length_le (Nat.le_refl _)]; rfl
  · have h1 : i < l.length := by omega
    have h1' : (i : Int) < l.length := by omega
    have da : l.drop i = l[i] :: l.drop (i + 1) := List.drop_eq_getElem_cons h1
    have ca : l[i]? = some l[i] := List.getElem?_eq_getElem h1
    generalize l[i] = x at da ca
    have w : IntKind.i64.wrap ((i : Int) + 1) = (i : Int) + 1 := i64w _ (by omega)
    have hx : l[i] = x := (List.getElem?_eq_some_iff.1 ca).2
    by_cases hp : x.name.length ≤ 100
    · have hp' : ¬ (100 : Int) < x.name.length := by omega
      refine .inl ⟨i + 1, by omega, by omega, ?_, ?_⟩
      · simp -implicitDefEqProofs [lgS, En.ws, bodyOf, loopsOf, hv, Tryz.f5, h1, h1', hx, Tm.c, w, hp']
      · rw [da, List.all_cons, decide_eq_true hp, Bool.true_and]
    · have hp' : (100 : Int) < x.name.length := by omega
      refine .inr (.inr ⟨st 65 [(4, V.bool false)] [] [] gl ro, ?_, ?_⟩)
      · simp -implicitDefEqProofs [lgS, En.ws, bodyOf, loopsOf, hv, Tryz.f5, h1, h1', hx, Tm.c, w, hp']
      · rw [da, List.all_cons, decide_eq_false hp, Bool.false_and, if_neg (by decide)]
def lgiS (en : En) (i : Nat) (gl : List (List W)) (ro : Nat) : St := st 65 [(3, .c (.w (.box 3 0))), (6, V.int .i64 i)] [(3, en.ws)] [] gl ro
theorem lgi_loop (k : Nat) (en : En) (hl : en.ins.length ≤ 100) (hk : en.ins.length + 1 ≤ k) (gl : List (List W)) (ro : Nat) (S : St) (hS : S.hav [3, 6] = lgiS en 0 gl ro) :
    loopA (evC Tryz.prog cf 5 (ev k) k (bodyOf Tryz.f5 1)) [3, 6] [4] k S = some (if (en.ins.all fun x => decide (x.length ≤ 100)) = true then (.exit 2, lgiS en en.ins.length gl ro) else (.ret, st 65 [(4, V.bool false)] [] [] gl ro)) := by
  refine loop_by (keep := [3, 6]) (res := [4]) (fun i : Nat => lgiS en i gl ro) (fun i => i ≤ en.ins.length) (fun i => en.ins.length - i) (fun i => if ((en.ins.drop i).all fun x => decide (x.length ≤ 100)) = true then (.exit 2, lgiS en en.ins.length gl ro) else (.ret, st 65 [(4, V.bool false)] [] [] gl ro)) ?_ k 0 S (Nat.zero_le _) (by omega) hS
  intro i hi
  by_cases hi' : i = en.ins.length
  · subst hi'
    refine .inr (.inl ⟨2, lgiS en en.ins.length gl ro, ?_, ?_⟩)
    · simp -implicitDefEqProofs [lgiS, En.ws, bodyOf, loopsOf, hv, Tryz.f5]
    · rw [List.drop_of_length_le (Nat.le_refl _)]; rfl
  · have h1 : i < en.ins.length := by omega
    have h1' : (i : Int) < en.ins.length := by omega
    have da : en.ins.drop i = en.ins[i] :: en.ins.drop (i + 1) := List.drop_eq_getElem_cons h1
    have ca : en.ins[i]? = some en.ins[i] := List.getElem?_eq_getElem h1
    generalize en.ins[i] = x at da ca
    have w : IntKind.i64.wrap ((i : Int) + 1) = (i : Int) + 1 := i64w _ (by omega)
    have hx : en.ins[i] = x := (List.getElem?_eq_some_iff.1 ca).2
    by_cases hp : x.length ≤ 100
    · have hp' : ¬ (100 : Int) < x.length := by omega
      refine .inl ⟨i + 1, by omega, by omega, ?_, ?_⟩
      · simp -implicitDefEqProofs [lgiS, En.ws, bodyOf, loopsOf, hv, Tryz.f5, h1, h1', hx, sD, w, hp']
      · rw [da, List.all_cons, decide_eq_true hp, Bool.true_and]
    · have hp' : (100 : Int) < x.length := by omega
      refine .inr (.inr ⟨st 65 [(4, V.bool false)] [] [] gl ro, ?_, ?_⟩)
      · simp -implicitDefEqProofs [lgiS, En.ws, bodyOf, loopsOf, hv, Tryz.f5, h1, h1', hx, sD, w, hp']
      · rw [da, List.all_cons, decide_eq_false hp, Bool.false_and, if_neg (by decide)]
def lgvS (en : En) (i : Nat) (gl : List (List W)) (ro : Nat) : St := st 65 [(3, .c (.w (.box 3 0))), (7, V.int .i64 i)] [(3, en.ws)] [] gl ro
theorem lgv_loop (k : Nat) (en : En) (hl : en.vars.length ≤ 100) (hk : en.vars.length + 1 ≤ k) (gl : List (List W)) (ro : Nat) (S : St) (hS : S.hav [3, 7] = lgvS en 0 gl ro) :
    loopA (evC Tryz.prog cf 5 (ev k) k (bodyOf Tryz.f5 2)) [3, 7] [4] k S = some (if (en.vars.all fun x => decide (x.name.length ≤ 100)) = true then (.exit 4, lgvS en en.vars.length gl ro) else (.ret, st 65 [(4, V.bool false)] [] [] gl ro)) := by
  refine loop_by (keep := [3, 7]) (res := [4]) (fun i : Nat => lgvS en i gl ro) (fun i => i ≤ en.vars.length) (fun i => en.vars.length - i) (fun i => if ((en.vars.drop i).all fun x => decide (x.name.length ≤ 100)) = true then (.exit 4, lgvS en en.vars.length gl ro) else (.ret, st 65 [(4, V.bool false)] [] [] gl ro)) ?_ k 0 S (Nat.zero_le _) (by omega) hS
  intro i hi
  by_cases hi' : i = en.vars.length
  · subst hi'
    refine .inr (.inl ⟨4, lgvS en en.vars.length gl ro, ?_, ?_⟩)
    · simp -implicitDefEqProofs [lgvS, En.ws, bodyOf, loopsOf, hv, Tryz.f5]
    · rw [List.drop_of_length_le (Nat.le_refl _)]; rfl
  · have h1 : i < en.vars.length := by omega
    have h1' : (i : Int) < en.vars.length := by omega
    have da : en.vars.drop i = en.vars[i] :: en.vars.drop (i + 1) := List.drop_eq_getElem_cons h1
    have ca : en.vars[i]? = some en.vars[i] := List.getElem?_eq_getElem h1
    generalize en.vars[i] = x at da ca
    have w : IntKind.i64.wrap ((i : Int) + 1) = (i : Int) + 1 := i64w _ (by omega)
    have hx : en.vars[i] = x := (List.getElem?_eq_some_iff.1 ca).2
    by_cases hp : x.name.length ≤ 100
    · have hp' : ¬ (100 : Int) < x.name.length := by omega
      refine .inl ⟨i + 1, by omega, by omega, ?_, ?_⟩
      · simp -implicitDefEqProofs [lgvS, En.ws, bodyOf, loopsOf, hv, Tryz.f5, h1, h1', hx, Vr.c, w, hp']
      · rw [da, List.all_cons, decide_eq_true hp, Bool.true_and]
    · have hp' : (100 : Int) < x.name.length := by omega
      refine .inr (.inr ⟨st 65 [(4, V.bool false)] [] [] gl ro, ?_, ?_⟩)
      · simp -implicitDefEqProofs [lgvS, En.ws, bodyOf, loopsOf, hv, Tryz.f5, h1, h1', hx, Vr.c, w, hp']
      · rw [da, List.all_cons, decide_eq_false hp, Bool.false_and, if_neg (by decide)]
theorem Light07E_ev (l : List Tm) (en : En) : Gives 5 [L (l.map Tm.c), en.w] (V.bool (lightB l && lightE en)) := by
  unfold lightB lightE
  by_cases h6 : l.length ≤ 60
  · rw [decide_eq_true h6, Bool.true_and]
    have j6 : ¬ (60 : Int) < l.length := by omega
    by_cases h7 : en.vars.length ≤ 20
    · rw [decide_eq_true h7, Bool.true_and]
      have j7 : ¬ (20 : Int) < en.vars.length := by omega
      by_cases h8 : en.ins.length ≤ 80
      · rw [decide_eq_true h8, Bool.true_and]
        have j8 : ¬ (80 : Int) < en.ins.length := by omega
        refine .intro Tryz.func5 (by kernel_rfl) ((Evt.ge 200).imp fun k hk ro gl => ?_)
        have tail : ∀ S : St, S.hav [0, 3, 5] = lgS en l 0 gl gl.length → loopC Tryz.prog cf 5 (ev k) k (bodyOf Tryz.f5 0) S = _ := fun S hS => lg_loop k en l h6 (by omega) gl gl.length S hS
        have tail2 : ∀ S : St, S.hav [3, 6] = lgiS en 0 gl gl.length → loopC Tryz.prog cf 5 (ev k) k (bodyOf Tryz.f5 1) S = _ := fun S hS => lgi_loop k en (by omega) (by omega) gl gl.length S hS
        have tail3 : ∀ S : St, S.hav [3, 7] = lgvS en 0 gl gl.length → loopC Tryz.prog cf 5 (ev k) k (bodyOf Tryz.f5 2) S = _ := fun S hS => lgv_loop k en (by omega) (by omega) gl gl.length S hS
        clear hk
        simp -implicitDefEqProofs [Tryz.f5, En.w, En.ws, j6, j7, j8]
        refine bind_go (tail _ ?_) ?_
        · simp [lgS, En.ws]
        · by_cases ha : (l.all fun t => decide (t.name.length ≤ 100)) = true
          · rw [if_pos ha, ha]
            simp -implicitDefEqProofs [lgS, En.ws]
            refine bind_go (tail2 _ ?_) ?_
            · simp [lgiS, En.ws]
            · by_cases hb : (en.ins.all fun x => decide (x.length ≤ 100)) = true
              · rw [if_pos hb]
                simp -implicitDefEqProofs [lgiS, En.ws]
                refine bind_go (tail3 _ ?_) ?_
                · simp [lgvS, En.ws]
                · by_cases hc : (en.vars.all fun x => decide (x.name.length ≤ 100)) = true
                  · rw [if_pos hc]
                    simp only [List.all_eq_true, decide_eq_true_eq] at hb hc
                    simp -implicitDefEqProofs [lgvS, En.ws, hb, hc]
                    first | done | exact ⟨hb, hc⟩
                  · rw [if_neg hc]
                    have hc : (en.vars.all fun x => decide (x.name.length ≤ 100)) = false := by simpa using hc
                    rw [hc, Bool.and_false]
                    simp
              · rw [if_neg hb]
                have hb : (en.ins.all fun x => decide (x.length ≤ 100)) = false := by simpa using hb
                rw [hb, Bool.false_and]
                simp
          · rw [if_neg ha]
            have ha : (l.all fun t => decide (t.name.length ≤ 100)) = false := by simpa using ha
            rw [ha, Bool.false_and]
            simp
      · rw [decide_eq_false h8, Bool.false_and, Bool.and_false]
        have j8 : (80 : Int) < en.ins.length := by omega
        refine .intro Tryz.func5 (by kernel_rfl) (.of fun k ro gl => ?_)
        simp -implicitDefEqProofs [Tryz.f5, En.w, En.ws, j6, j7, j8]
    · rw [decide_eq_false h7, Bool.false_and, Bool.false_and, Bool.and_false]
      have j7 : (20 : Int) < en.vars.length := by omega
      refine .intro Tryz.func5 (by kernel_rfl) (.of fun k ro gl => ?_)
      simp -implicitDefEqProofs [Tryz.f5, En.w, En.ws, j6, j7]
  · rw [decide_eq_false h6, Bool.false_and, Bool.false_and]
    have j6 : (60 : Int) < l.length := by omega
    refine .intro Tryz.func5 (by kernel_rfl) (.of fun k ro gl => ?_)
    simp -implicitDefEqProofs [Tryz.f5, En.w, En.ws, j6]
def en0 : En := ⟨[], ⟨0, 0, 0, 0⟩, []⟩
abbrev env0 : List W := [.d (.sl []), .d (.int .i64 0), .d (.int .i64 0), .d (.int .i64 0), .d (.int .i64 0), .d (.sl [])]
theorem Light07_ev (l : List Tm) : Gives 5 [L (l.map Tm.c), .agg env0] (V.bool (lightB l)) := by
  have := Light07E_ev l en0
  rwa [show lightE en0 = true from rfl, Bool.and_true] at this
def okA (a : Ac) : Bool := decide (a.name.length ≤ 100) && lightB a.expr
def light8 (l : List Ac) : Bool := (l.take 20).all okA && decide (l.length < 20)
def l8S (l : List Ac) (i : Nat) (gl : List (List W)) (ro : Nat) : St := st 34 [(0, .c (L (l.map Ac.c))), (3, V.int .i64 i)] [] [] gl ro
theorem l8_loop (l : List Ac) : Evt fun k => ∀ gl ro S, S.hav [0, 3] = l8S l 0 gl ro →
    loopA (evC Tryz.prog cf 4 (ev k) k (bodyOf Tryz.f4 0)) [0, 3] [2] k S = some (if (l.take 20).all okA = true then (.exit 0, l8S l (min 20 l.length) gl ro) else (.ret, st 34 [(2, V.bool false)] [] [] gl ro)) := by
  have hs : Evt fun k => ∀ x ∈ l, ∀ ro gl, ev k 5 [L (x.expr.map Tm.c), .agg env0] ro gl = some (V.bool (lightB x.expr), gl) := Evt.all l fun x hx => Light07_ev x.expr
  refine (hs.and (Evt.ge 21)).imp fun k ⟨hs, hk⟩ gl ro S hS => ?_
  have hlen : (l.take 20).length = min 20 l.length := List.length_take
  refine loop_by (keep := [0, 3]) (res := [2]) (fun i : Nat => l8S l i gl ro) (fun i => i ≤ min 20 l.length) (fun i => min 20 l.length - i) (fun i => if ((l.take 20).drop i).all okA = true then (.exit 0, l8S l (min 20 l.length) gl ro) else (.ret, st 34 [(2, V.bool false)] [] [] gl ro)) ?_ k 0 S (Nat.zero_le _) (by omega) hS
  intro i hi
  by_cases hi' : i = min 20 l.length
  · refine .inr (.inl ⟨0, l8S l (min 20 l.length) gl ro, ?_, ?_⟩)
    · rw [← hi']
      by_cases hb : i < l.length
      · have hb' : (i : Int) < l.length := by omega
        have h20 : ¬ (i : Int) < 20 := by omega
        simp -implicitDefEqProofs [l8S, bodyOf, loopsOf, hv, Tryz.f4, hb, hb', h20]
      · have hb' : ¬ (i : Int) < l.length := by omega
        simp -implicitDefEqProofs [l8S, bodyOf, loopsOf, hv, Tryz.f4, hb, hb']
    · rw [List.drop_of_length_le (by omega)]; rfl
  · have h1 : i < l.length := by omega
    have h20 : i < 20 := by omega
    have h1' : (i : Int) < l.length := by omega
    have h20' : (i : Int) < 20 := by omega
    have hlt : i < (l.take 20).length := by omega
    have hg : (l.take 20)[i] = l[i] := List.getElem_take
    have da : (l.take 20).drop i = l[i] :: (l.take 20).drop (i + 1) := by rw [List.drop_eq_getElem_cons hlt, hg]
    have ca : l[i]? = some l[i] := List.getElem?_eq_getElem h1
    have hq := hs l[i] (List.getElem_mem h1)
    generalize l[i] = x at da ca hq
    have w : IntKind.i64.wrap ((i : Int) + 1) = (i : Int) + 1 := i64w _ (by omega)
    have hx : l[i] = x := (List.getElem?_eq_some_iff.1 ca).2
    have hok : okA x = (decide (x.name.length ≤ 100) && lightB x.expr) := rfl
    obtain ⟨nm, an, ex⟩ := x
    simp only at hq hok
    generalize lightB ex = b at hq hok
    by_cases hp : nm.length ≤ 100
    · have hp' : ¬ (100 : Int) < nm.length := by omega
      rw [decide_eq_true hp, Bool.true_and] at hok
      cases b with
      | true =>
        refine .inl ⟨i + 1, by omega, by omega, ?_, ?_⟩
        · simp -implicitDefEqProofs [l8S, bodyOf, loopsOf, hv, Tryz.f4, h1, h1', h20, h20', hx, Ac.c, w, hp', hq]
        · rw [da, List.all_cons, hok, Bool.true_and]
      | false =>
        refine .inr (.inr ⟨st 34 [(2, V.bool false)] [] [] gl ro, ?_, ?_⟩)
        · simp -implicitDefEqProofs [l8S, bodyOf, loopsOf, hv, Tryz.f4, h1, h1', h20, h20', hx, Ac.c, w, hp', hq]
        · rw [da, List.all_cons, hok, Bool.false_and, if_neg (by decide)]
    · have hp' : (100 : Int) < nm.length := by omega
      rw [decide_eq_false hp, Bool.false_and] at hok
      refine .inr (.inr ⟨st 34 [(2, V.bool false)] [] [] gl ro, ?_, ?_⟩)
      · simp -implicitDefEqProofs [l8S, bodyOf, loopsOf, hv, Tryz.f4, h1, h1', h20, h20', hx, Ac.c, w, hp']
      · rw [da, List.all_cons, hok, Bool.false_and, if_neg (by decide)]
theorem Light08_ev (l : List Ac) : Gives 4 [L (l.map Ac.c)] (V.bool (light8 l)) := by
  unfold light8
  refine .intro Tryz.func4 (by kernel_rfl) ((l8_loop l).imp fun k h ro gl => ?_)
  have tail : ∀ S : St, S.hav [0, 3] = l8S l 0 gl gl.length → loopC Tryz.prog cf 4 (ev k) k (bodyOf Tryz.f4 0) S = _ := fun S hS => h gl gl.length S hS
  simp -implicitDefEqProofs [Tryz.f4]
  refine bind_go (tail _ ?_) ?_
  · simp [l8S]
  · by_cases ha : (l.take 20).all okA = true
    · rw [if_pos ha, ha]
      by_cases hb : l.length < 20
      · have hb' : (l.length : Int) < 20 := by omega
        simp -implicitDefEqProofs [l8S, hb, hb']
      · have hb' : ¬ (l.length : Int) < 20 := by omega
        simp -implicitDefEqProofs [l8S, hb, hb']
    · rw [if_neg ha]
      have ha : (l.take 20).all okA = false := by simpa using ha
      rw [ha]
      simp
end Go.Proofs.YtkklkkppedociaaGreat.Ev
