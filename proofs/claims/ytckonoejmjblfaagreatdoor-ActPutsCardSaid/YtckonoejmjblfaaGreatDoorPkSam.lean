/- Layers 7 and 8: which inputs are light. -/
import Derived.Test.YtckonoejmjblfaaGreatDoorPkActA
import Derived.Test.YtckonoejmjblfaaGreatDoorPkEvaA
import Derived.Test.YtckonoejmjblfaaGreatDoorPkTrp
import Derived.Test.YtckonoejmjblfaaGreatDoorPkTrmB
set_option linter.unusedVariables false
set_option linter.unusedSimpArgs false
set_option maxRecDepth 100000
set_option maxHeartbeats 4000000
namespace Go.Proofs.YtckonoejmjblfaaGreatDoor.Ev
open Go Go.RowKit

def lightB (l : List Tm) : Bool := decide (l.length ≤ 60) && l.all fun t => decide (t.name.length ≤ 100)
def lightE (en : En) : Bool := decide (en.vars.length ≤ 20) && decide (en.ins.length ≤ 80) && ((en.ins.all fun x => decide (x.length ≤ 100)) && (en.vars.all fun x => decide (x.name.length ≤ 100)))
def lgS (en : En) (l : List Tm) (i : Nat) (gl : List (List W)) (ro : Nat) : St := st 65 [(0, .c (L (l.map Tm.c))), (3, .c (.w (.box 3 0))), (5, V.int .i64 i)] [(3, en.ws)] [] gl ro
theorem lg_loop (k : Nat) (en : En) (l : List Tm) (hl : l.length ≤ 60) (hk : l.length + 1 ≤ k) (gl : List (List W)) (ro : Nat) (S : St) (hS : S.hav [0, 3, 5] = lgS en l 0 gl ro) :
    loopA (evC Tryz.prog cf 72 (ev k) k (bodyOf Tryz.f72 0)) [0, 3, 5] [4] k S = some (if (l.all fun t => decide (t.name.length ≤ 100)) = true then (.exit 0, lgS en l l.length gl ro) else (.ret, st 65 [(4, V.bool false)] [] [] gl ro)) := by
  refine loop_by (keep := [0, 3, 5]) (res := [4]) (fun i : Nat => lgS en l i gl ro) (fun i => i ≤ l.length) (fun i => l.length - i) (fun i => if ((l.drop i).all fun t => decide (t.name.length ≤ 100)) = true then (.exit 0, lgS en l l.length gl ro) else (.ret, st 65 [(4, V.bool false)] [] [] gl ro)) ?_ k 0 S (Nat.zero_le _) (by omega) hS
  intro i hi
  by_cases hi' : i = l.length
  · subst hi'
    refine .inr (.inl ⟨0, lgS en l l.length gl ro, ?_, ?_⟩)
    · simp -implicitDefEqProofs [lgS, En.ws, bodyOf, loopsOf, hv, Tryz.f72]
    · rw [List.drop_of_length_le (Nat.le_refl _)]; rfl
  · have h1 : i < l.length := by omega
    have h1' : (i : Int) < l.length := by omega
    have da : l.drop i = l[i] :: l.drop (i + 1) := List.drop_eq_getElem_cons h1
    have ca : l[i]? = some l[i] := List.getElem?_eq_getElem h1
    generalize l[i] = x at da ca
    have w : IntKind.i64.wrap ((i : Int) + 1) = (i : Int) + 1 := i64w _ (by omega)
    have hx : l[i] = x := (List.getElem?_eq_some_iff.1 ca).2
    by_cases hp : x.name.length ≤ 100
    · have hp' : ¬ (100 : Int) < x.name.length := by omega
      refine .inl ⟨i + 1, by omega, by omega, ?_, ?_⟩
      · simp -implicitDefEqProofs [lgS, En.ws, bodyOf, loopsOf, hv, Tryz.f72, h1, h1', hx, Tm.c, w, hp']
      · rw [da, List.all_cons, decide_eq_true hp, Bool.true_and]
    · have hp' : (100 : Int) < x.name.length := by omega
      refine .inr (.inr ⟨st 65 [(4, V.bool false)] [] [] gl ro, ?_, ?_⟩)
      · simp -implicitDefEqProofs [lgS, En.ws, bodyOf, loopsOf, hv, Tryz.f72, h1, h1', hx, Tm.c, w, hp']
      · rw [da, List.all_cons, decide_eq_false hp, Bool.false_and, if_neg (by decide)]
def lgiS (en : En) (i : Nat) (gl : List (List W)) (ro : Nat) : St := st 65 [(3, .c (.w (.box 3 0))), (6, V.int .i64 i)] [(3, en.ws)] [] gl ro
theorem lgi_loop (k : Nat) (en : En) (hl : en.ins.length ≤ 100) (hk : en.ins.length + 1 ≤ k) (gl : List (List W)) (ro : Nat) (S : St) (hS : S.hav [3, 6] = lgiS en 0 gl ro) :
    loopA (evC Tryz.prog cf 72 (ev k) k (bodyOf Tryz.f72 1)) [3, 6] [4] k S = some (if (en.ins.all fun x => decide (x.length ≤ 100)) = true then (.exit 2, lgiS en en.ins.length gl ro) else (.ret, st 65 [(4, V.bool false)] [] [] gl ro)) := by
  refine loop_by (keep := [3, 6]) (res := [4]) (fun i : Nat => lgiS en i gl ro) (fun i => i ≤ en.ins.length) (fun i => en.ins.length - i) (fun i => if ((en.ins.drop i).all fun x => decide (x.length ≤ 100)) = true then (.exit 2, lgiS en en.ins.length gl ro) else (.ret, st 65 [(4, V.bool false)] [] [] gl ro)) ?_ k 0 S (Nat.zero_le _) (by omega) hS
  intro i hi
  by_cases hi' : i = en.ins.length
  · subst hi'
    refine .inr (.inl ⟨2, lgiS en en.ins.length gl ro, ?_, ?_⟩)
    · simp -implicitDefEqProofs [lgiS, En.ws, bodyOf, loopsOf, hv, Tryz.f72]
    · rw [List.drop_of_length_le (Nat.le_refl _)]; rfl
  · have h1 : i < en.ins.length := by omega
    have h1' : (i : Int) < en.ins.length := by omega
    have da : en.ins.drop i = en.ins[i] :: en.ins.drop (i + 1) := List.drop_eq_getElem_cons h1
    have ca : en.ins[i]? = some en.ins[i] := List.getElem?_eq_getElem h1
    generalize en.ins[i] = x at da ca
    have w : IntKind.i64.wrap ((i : Int) + 1) = (i : Int) + 1 := i64w _ (by omega)
    have hx : en.ins[i] = x := (List.getElem?_eq_some_iff.1 ca).2
    by_cases hp : x.length ≤ 100
    · have hp' : ¬ (100 : Int) < x.length := by omega
      refine .inl ⟨i + 1, by omega, by omega, ?_, ?_⟩
      · simp -implicitDefEqProofs [lgiS, En.ws, bodyOf, loopsOf, hv, Tryz.f72, h1, h1', hx, sD, w, hp']
      · rw [da, List.all_cons, decide_eq_true hp, Bool.true_and]
    · have hp' : (100 : Int) < x.length := by omega
      refine .inr (.inr ⟨st 65 [(4, V.bool false)] [] [] gl ro, ?_, ?_⟩)
      · simp -implicitDefEqProofs [lgiS, En.ws, bodyOf, loopsOf, hv, Tryz.f72, h1, h1', hx, sD, w, hp']
      · rw [da, List.all_cons, decide_eq_false hp, Bool.false_and, if_neg (by decide)]
def lgvS (en : En) (i : Nat) (gl : List (List W)) (ro : Nat) : St := st 65 [(3, .c (.w (.box 3 0))), (7, V.int .i64 i)] [(3, en.ws)] [] gl ro
theorem lgv_loop (k : Nat) (en : En) (hl : en.vars.length ≤ 100) (hk : en.vars.length + 1 ≤ k) (gl : List (List W)) (ro : Nat) (S : St) (hS : S.hav [3, 7] = lgvS en 0 gl ro) :
    loopA (evC Tryz.prog cf 72 (ev k) k (bodyOf Tryz.f72 2)) [3, 7] [4] k S = some (if (en.vars.all fun x => decide (x.name.length ≤ 100)) = true then (.exit 4, lgvS en en.vars.length gl ro) else (.ret, st 65 [(4, V.bool false)] [] [] gl ro)) := by
  refine loop_by (keep := [3, 7]) (res := [4]) (fun i : Nat => lgvS en i gl ro) (fun i => i ≤ en.vars.length) (fun i => en.vars.length - i) (fun i => if ((en.vars.drop i).all fun x => decide (x.name.length ≤ 100)) = true then (.exit 4, lgvS en en.vars.length gl ro) else (.ret, st 65 [(4, V.bool false)] [] [] gl ro)) ?_ k 0 S (Nat.zero_le _) (by omega) hS
  intro i hi
  by_cases hi' : i = en.vars.length
  · subst hi'
    refine .inr (.inl ⟨4, lgvS en en.vars.length gl ro, ?_, ?_⟩)
    · simp -implicitDefEqProofs [lgvS, En.ws, bodyOf, loopsOf, hv, Tryz.f72]
    · rw [List.drop_of_length_le (Nat.le_refl _)]; rfl
  · have h1 : i < en.vars.length := by omega
    have h1' : (i : Int) < en.vars.length := by omega
    have da : en.vars.drop i = en.vars[i] :: en.vars.drop (i + 1) := List.drop_eq_getElem_cons h1
    have ca : en.vars[i]? = some en.vars[i] := List.getElem?_eq_getElem h1
    generalize en.vars[i] = x at da ca
    have w : IntKind.i64.wrap ((i : Int) + 1) = (i : Int) + 1 := i64w _ (by omega)
    have hx : en.vars[i] = x := (List.getElem?_eq_some_iff.1 ca).2
    by_cases hp : x.name.length ≤ 100
    · have hp' : ¬ (100 : Int) < x.name.length := by omega
      refine .inl ⟨i + 1, by omega, by omega, ?_, ?_⟩
      · simp -implicitDefEqProofs [lgvS, En.ws, bodyOf, loopsOf, hv, Tryz.f72, h1, h1', hx, Vr.c, w, hp']
      · rw [da, List.all_cons, decide_eq_true hp, Bool.true_and]
    · have hp' : (100 : Int) < x.name.length := by omega
      refine .inr (.inr ⟨st 65 [(4, V.bool false)] [] [] gl ro, ?_, ?_⟩)
      · simp -implicitDefEqProofs [lgvS, En.ws, bodyOf, loopsOf, hv, Tryz.f72, h1, h1', hx, Vr.c, w, hp']
      · rw [da, List.all_cons, decide_eq_false hp, Bool.false_and, if_neg (by decide)]
theorem Light07E_ev (l : List Tm) (en : En) : Gives 72 [L (l.map Tm.c), en.w] (V.bool (lightB l && lightE en)) := by
  unfold lightB lightE
  by_cases h6 : l.length ≤ 60
  · rw [decide_eq_true h6, Bool.true_and]
    have j6 : ¬ (60 : Int) < l.length := by omega
    by_cases h7 : en.vars.length ≤ 20
    · rw [decide_eq_true h7, Bool.true_and]
      have j7 : ¬ (20 : Int) < en.vars.length := by omega
      by_cases h8 : en.ins.length ≤ 80
      · rw [decide_eq_true h8, Bool.true_and]
        have j8 : ¬ (80 : Int) < en.ins.length := by omega
        refine .intro Tryz.func72 (by kernel_rfl) ((Evt.ge 200).imp fun k hk ro gl => ?_)
        have tail : ∀ S : St, S.hav [0, 3, 5] = lgS en l 0 gl gl.length → loopC Tryz.prog cf 72 (ev k) k (bodyOf Tryz.f72 0) S = _ := fun S hS => lg_loop k en l h6 (by omega) gl gl.length S hS
        have tail2 : ∀ S : St, S.hav [3, 6] = lgiS en 0 gl gl.length → loopC Tryz.prog cf 72 (ev k) k (bodyOf Tryz.f72 1) S = _ := fun S hS => lgi_loop k en (by omega) (by omega) gl gl.length S hS
        have tail3 : ∀ S : St, S.hav [3, 7] = lgvS en 0 gl gl.length → loopC Tryz.prog cf 72 (ev k) k (bodyOf Tryz.f72 2) S = _ := fun S hS => lgv_loop k en (by omega) (by omega) gl gl.length S hS
        clear hk
        simp -implicitDefEqProofs [Tryz.f72, En.w, En.ws, j6, j7, j8]
        refine bind_go (tail _ ?_) ?_
        · simp [lgS, En.ws]
        · by_cases ha : (l.all fun t => decide (t.name.length ≤ 100)) = true
          · rw [if_pos ha, ha]
            simp -implicitDefEqProofs [lgS, En.ws]
            refine bind_go (tail2 _ ?_) ?_
            · simp [lgiS, En.ws]
            · by_cases hb : (en.ins.all fun x => decide (x.length ≤ 100)) = true
              · rw [if_pos hb]
                simp -implicitDefEqProofs [lgiS, En.ws]
                refine bind_go (tail3 _ ?_) ?_
                · simp [lgvS, En.ws]
                · by_cases hc : (en.vars.all fun x => decide (x.name.length ≤ 100)) = true
                  · rw [if_pos hc]
                    simp only [List.all_eq_true, decide_eq_true_eq] at hb hc
                    simp -implicitDefEqProofs [lgvS, En.ws, hb, hc]
                    first | done | exact ⟨hb, hc⟩
                  · rw [if_neg hc]
                    have hc : (en.vars.all fun x => decide (x.name.length ≤ 100)) = false := by simpa using hc
                    rw [hc, Bool.and_false]
                    simp
              · rw [if_neg hb]
                have hb : (en.ins.all fun x => decide (x.length ≤ 100)) = false := by simpa using hb
                rw [hb, Bool.false_and]
                simp
          · rw [if_neg ha]
            have ha : (l.all fun t => decide (t.name.length ≤ 100)) = false := by simpa using ha
            rw [ha, Bool.false_and]
            simp
      · rw [decide_eq_false h8, Bool.false_and, Bool.and_false]
        have j8 : (80 : Int) < en.ins.length := by omega
        refine .intro Tryz.func72 (by kernel_rfl) (.of fun k ro gl => ?_)
        simp -implicitDefEqProofs [Tryz.f72, En.w, En.ws, j6, j7, j8]
    · rw [decide_eq_false h7, Bool.false_and, Bool.false_and, Bool.and_false]
      have j7 : (20 : Int) < en.vars.length := by omega
      refine .intro Tryz.func72 (by kernel_rfl) (.of fun k ro gl => ?_)
      simp -implicitDefEqProofs [Tryz.f72, En.w, En.ws, j6, j7]
  · rw [decide_eq_false h6, Bool.false_and, Bool.false_and]
    have j6 : (60 : Int) < l.length := by omega
    refine .intro Tryz.func72 (by kernel_rfl) (.of fun k ro gl => ?_)
    simp -implicitDefEqProofs [Tryz.f72, En.w, En.ws, j6]
def en0 : En := ⟨[], ⟨0, 0, 0, 0⟩, []⟩
abbrev env0 : List W := [.d (.sl []), .d (.int .i64 0), .d (.int .i64 0), .d (.int .i64 0), .d (.int .i64 0), .d (.sl [])]
theorem Light07_ev (l : List Tm) : Gives 72 [L (l.map Tm.c), .agg env0] (V.bool (lightB l)) := by
  have := Light07E_ev l en0
  rwa [show lightE en0 = true from rfl, Bool.and_true] at this
def okA (a : Ac) : Bool := decide (a.name.length ≤ 100) && lightB a.expr
def light8 (l : List Ac) : Bool := (l.take 20).all okA && decide (l.length < 20)
def l8S (l : List Ac) (i : Nat) (gl : List (List W)) (ro : Nat) : St := st 34 [(0, .c (L (l.map Ac.c))), (3, V.int .i64 i)] [] [] gl ro
theorem l8_loop (l : List Ac) : Evt fun k => ∀ gl ro S, S.hav [0, 3] = l8S l 0 gl ro →
    loopA (evC Tryz.prog cf 22 (ev k) k (bodyOf Tryz.f22 0)) [0, 3] [2] k S = some (if (l.take 20).all okA = true then (.exit 0, l8S l (min 20 l.length) gl ro) else (.ret, st 34 [(2, V.bool false)] [] [] gl ro)) := by
  have hs : Evt fun k => ∀ x ∈ l, ∀ ro gl, ev k 72 [L (x.expr.map Tm.c), .agg env0] ro gl = some (V.bool (lightB x.expr), gl) := Evt.all l fun x hx => Light07_ev x.expr
  refine (hs.and (Evt.ge 21)).imp fun k ⟨hs, hk⟩ gl ro S hS => ?_
  have hlen : (l.take 20).length = min 20 l.length := List.length_take
  refine loop_by (keep := [0, 3]) (res := [2]) (fun i : Nat => l8S l i gl ro) (fun i => i ≤ min 20 l.length) (fun i => min 20 l.length - i) (fun i => if ((l.take 20).drop i).all okA = true then (.exit 0, l8S l (min 20 l.length) gl ro) else (.ret, st 34 [(2, V.bool false)] [] [] gl ro)) ?_ k 0 S (Nat.zero_le _) (by omega) hS
  intro i hi
  by_cases hi' : i = min 20 l.length
  · refine .inr (.inl ⟨0, l8S l (min 20 l.length) gl ro, ?_, ?_⟩)
    · rw [← hi']
      by_cases hb : i < l.length
      · have hb' : (i : Int) < l.length := by omega
        have h20 : ¬ (i : Int) < 20 := by omega
        simp -implicitDefEqProofs [l8S, bodyOf, loopsOf, hv, Tryz.f22, hb, hb', h20]
      · have hb' : ¬ (i : Int) < l.length := by omega
        simp -implicitDefEqProofs [l8S, bodyOf, loopsOf, hv, Tryz.f22, hb, hb']
    · rw [List.drop_of_length_le (by omega)]; rfl
  · have h1 : i < l.length := by omega
    have h20 : i < 20 := by omega
    have h1' : (i : Int) < l.length := by omega
    have h20' : (i : Int) < 20 := by omega
    have hlt : i < (l.take 20).length := by omega
    have hg : (l.take 20)[i] = l[i] := List.getElem_take
    have da : (l.take 20).drop i = l[i] :: (l.take 20).drop (i + 1) := by rw [List.drop_eq_getElem_cons hlt, hg]
    have ca : l[i]? = some l[i] := List.getElem?_eq_getElem h1
    have hq := hs l[i] (List.getElem_mem h1)
    generalize l[i] = x at da ca hq
    have w : IntKind.i64.wrap ((i : Int) + 1) = (i : Int) + 1 := i64w _ (by omega)
    have hx : l[i] = x := (List.getElem?_eq_some_iff.1 ca).2
    have hok : okA x = (decide (x.name.length ≤ 100) && lightB x.expr) := rfl
    obtain ⟨nm, an, ex⟩ := x
    simp only at hq hok
    generalize lightB ex = b at hq hok
    by_cases hp : nm.length ≤ 100
    · have hp' : ¬ (100 : Int) < nm.length := by omega
      rw [decide_eq_true hp, Bool.true_and] at hok
      cases b with
      | true =>
        refine .inl ⟨i + 1, by omega, by omega, ?_, ?_⟩
        · simp -implicitDefEqProofs [l8S, bodyOf, loopsOf, hv, Tryz.f22, h1, h1', h20, h20', hx, Ac.c, w, hp', hq]
        · rw [da, List.all_cons, hok, Bool.true_and]
      | false =>
        refine .inr (.inr ⟨st 34 [(2, V.bool false)] [] [] gl ro, ?_, ?_⟩)
        · simp -implicitDefEqProofs [l8S, bodyOf, loopsOf, hv, Tryz.f22, h1, h1', h20, h20', hx, Ac.c, w, hp', hq]
        · rw [da, List.all_cons, hok, Bool.false_and, if_neg (by decide)]
    · have hp' : (100 : Int) < nm.length := by omega
      rw [decide_eq_false hp, Bool.false_and] at hok
      refine .inr (.inr ⟨st 34 [(2, V.bool false)] [] [] gl ro, ?_, ?_⟩)
      · simp -implicitDefEqProofs [l8S, bodyOf, loopsOf, hv, Tryz.f22, h1, h1', h20, h20', hx, Ac.c, w, hp']
      · rw [da, List.all_cons, hok, Bool.false_and, if_neg (by decide)]
theorem Light08_ev (l : List Ac) : Gives 22 [L (l.map Ac.c)] (V.bool (light8 l)) := by
  unfold light8
  refine .intro Tryz.func22 (by kernel_rfl) ((l8_loop l).imp fun k h ro gl => ?_)
  have tail : ∀ S : St, S.hav [0, 3] = l8S l 0 gl gl.length → loopC Tryz.prog cf 22 (ev k) k (bodyOf Tryz.f22 0) S = _ := fun S hS => h gl gl.length S hS
  simp -implicitDefEqProofs [Tryz.f22]
  refine bind_go (tail _ ?_) ?_
  · simp [l8S]
  · by_cases ha : (l.take 20).all okA = true
    · rw [if_pos ha, ha]
      by_cases hb : l.length < 20
      · have hb' : (l.length : Int) < 20 := by omega
        simp -implicitDefEqProofs [l8S, hb, hb']
      · have hb' : ¬ (l.length : Int) < 20 := by omega
        simp -implicitDefEqProofs [l8S, hb, hb']
    · rw [if_neg ha]
      have ha : (l.take 20).all okA = false := by simpa using ha
      rw [ha]
      simp
theorem okA_spec {a : Ac} (h : okA a = true) : a.Ok ∧ a.expr.length < 1000000 := by
  unfold okA lightB at h
  simp only [Bool.and_eq_true, decide_eq_true_eq, List.all_eq_true] at h
  exact ⟨⟨by omega, by omega, fun t ht => by have := h.2.2 t ht; omega⟩, by omega⟩
theorem light8_spec {l : List Ac} (h : light8 l = true) : l.length < 20 ∧ ∀ a ∈ l, a.Ok ∧ a.expr.length < 1000000 := by
  unfold light8 at h
  simp only [Bool.and_eq_true, decide_eq_true_eq] at h
  obtain ⟨h1, h2⟩ := h
  rw [List.take_of_length_le (by omega), List.all_eq_true] at h1
  exact ⟨h2, fun a ha => okA_spec (h1 a ha)⟩
theorem lightE_spec {en : En} (h : lightE en = true) : en.vars.length ≤ 20 ∧ en.ins.length ≤ 80 := by
  unfold lightE at h
  simp only [Bool.and_eq_true, decide_eq_true_eq] at h
  exact ⟨h.1.1, h.1.2⟩
end Go.Proofs.YtckonoejmjblfaaGreatDoor.Ev

/- Layers 5, 8 and 9: what is the same. -/
set_option linter.unusedVariables false
set_option linter.unusedSimpArgs false
set_option maxRecDepth 100000
set_option maxHeartbeats 4000000
namespace Go.Proofs.YtckonoejmjblfaaGreatDoor.Ev
open Go Go.RowKit

def seqS (a b : List Tm) (i : Nat) (gl : List (List W)) (ro : Nat) : St := st 26 [(0, .c (L (a.map Tm.c))), (1, .c (L (b.map Tm.c))), (12, V.int .i64 a.length), (13, V.int .i64 i)] [] [] gl ro
theorem seq_loop (call : Caller) (N : Nat) (gl : List (List W)) (ro : Nat) (a b : List Tm) (hl : a.length < 2305843009213693952) (he : a.length = b.length) (n : Nat) (hn : a.length < n) (S : St) (hS : S.hav [0, 1, 12, 13] = seqS a b 0 gl ro) :
    loopA (evC Tryz.prog cf 177 call N (bodyOf Tryz.f177 0)) [0, 1, 12, 13] [4] n S = some (if a = b then (.exit 0, seqS a b a.length gl ro) else (.ret, st 26 [(4, V.bool false)] [] [] gl ro)) := by
  refine loop_by (keep := [0, 1, 12, 13]) (res := [4]) (fun i : Nat => seqS a b i gl ro) (fun i => i ≤ a.length) (fun i => a.length - i) (fun i => if a.drop i = b.drop i then (.exit 0, seqS a b a.length gl ro) else (.ret, st 26 [(4, V.bool false)] [] [] gl ro)) ?_ n 0 S (Nat.zero_le _) (by omega) hS
  intro i hi
  by_cases h : i = a.length
  · subst h
    refine .inr (.inl ⟨0, seqS a b a.length gl ro, ?_, ?_⟩)
    · simp -implicitDefEqProofs [seqS, bodyOf, loopsOf, hv, Tryz.f177]
    · rw [List.drop_of_length_le (Nat.le_refl _), List.drop_of_length_le (by omega), if_pos rfl]
  · have h1 : i < a.length := by omega
    have h2 : i < b.length := by omega
    have h1' : (i : Int) < a.length := by omega
    have h2' : (i : Int) < b.length := by omega
    have da : a.drop i = a[i] :: a.drop (i + 1) := List.drop_eq_getElem_cons h1
    have db : b.drop i = b[i] :: b.drop (i + 1) := List.drop_eq_getElem_cons h2
    have ca : a[i]? = some a[i] := List.getElem?_eq_getElem h1
    have cb : b[i]? = some b[i] := List.getElem?_eq_getElem h2
    generalize a[i] = x at da ca
    generalize b[i] = y at db cb
    have w : IntKind.i64.wrap ((i : Int) + 1) = (i : Int) + 1 := i64w _ (by omega)
    have hx : a[i] = x := (List.getElem?_eq_some_iff.1 ca).2
    have hy : b[i] = y := (List.getElem?_eq_some_iff.1 cb).2
    obtain ⟨o, m, s⟩ := x
    obtain ⟨o', m', s'⟩ := y
    by_cases hxy : o = o' ∧ m = m' ∧ s = s'
    · obtain ⟨rfl, rfl, rfl⟩ := hxy
      refine .inl ⟨i + 1, by omega, by omega, ?_, by rw [da, db]; simp⟩
      simp -implicitDefEqProofs [seqS, bodyOf, loopsOf, hv, Tryz.f177, h1, h2, h1', h2', hx, hy, Tm.c, w]
    · refine .inr (.inr ⟨st 26 [(4, V.bool false)] [] [] gl ro, ?_, by rw [da, db, if_neg (by simp; intro q1 q2 q3; exact absurd ⟨q1, q2, q3⟩ hxy)]⟩)
      have e : (decide (o = o') && (decide (m = m') && decide (s = s'))) = false := by
        simp only [Bool.and_eq_false_imp, decide_eq_true_eq, decide_eq_false_iff_not]
        intro q1 q2 q3
        exact hxy ⟨q1, q2, q3⟩
      by_cases q1 : o = o'
      · by_cases q2 : m = m'
        · have q3 : ¬ s = s' := fun q3 => hxy ⟨q1, q2, q3⟩
          simp -implicitDefEqProofs [seqS, bodyOf, loopsOf, hv, Tryz.f177, h1, h2, h1', h2', hx, hy, Tm.c, q1, q2, q3]
        · simp -implicitDefEqProofs [seqS, bodyOf, loopsOf, hv, Tryz.f177, h1, h2, h1', h2', hx, hy, Tm.c, q1, q2]
      · simp -implicitDefEqProofs [seqS, bodyOf, loopsOf, hv, Tryz.f177, h1, h2, h1', h2', hx, hy, Tm.c, q1]
theorem SEqual_ev (a b : List Tm) (hl : a.length < 2305843009213693952) (hl' : b.length < 2305843009213693952) : Gives 177 [L (a.map Tm.c), L (b.map Tm.c)] (V.bool (decide (a = b))) := by
  refine .intro Tryz.func177 (by kernel_rfl) ((Evt.ge (a.length + 1)).imp fun k hk ro gl => ?_)
  by_cases he : a.length = b.length
  · have he' : (a.length : Int) = b.length := by omega
    have tail : ∀ S : St, S.hav [0, 1, 12, 13] = seqS a b 0 gl gl.length → loopC Tryz.prog cf 177 (ev k) k (bodyOf Tryz.f177 0) S = _ := fun S hS => seq_loop (ev k) k gl gl.length a b hl he k (by omega) S hS
    simp -implicitDefEqProofs [Tryz.f177, he, he']
    refine bind_go (tail _ ?_) ?_
    · simp [seqS, he]
    · by_cases hab : a = b
      · simp [hab, seqS]
      · simp [hab]
  · have he' : ¬ (a.length : Int) = b.length := by omega
    have hab : ¬ a = b := fun e => he (by rw [e])
    simp -implicitDefEqProofs [Tryz.f177, he, he', hab]
instance acDec : DecidableEq Ac := fun a b => decidable_of_iff (a.name = b.name ∧ a.any = b.any ∧ a.expr = b.expr) (by cases a; cases b; simp)
instance tnDec : DecidableEq Tn := fun a b => decidable_of_iff (a.event = b.event ∧ a.target = b.target ∧ a.guard = b.guard ∧ a.acts = b.acts) (by
  cases a; cases b
  simp only [Tn.mk.injEq]
  constructor
  · rintro ⟨h1, h2, h3, h4⟩; exact ⟨h1, h3, h4, h2⟩
  · rintro ⟨h1, h3, h4, h2⟩; exact ⟨h1, h2, h3, h4⟩)
/-- Within bounds. -/
structure Ac.Sm (a : Ac) : Prop where
  len : a.expr.length < 2305843009213693952
theorem sameAct_ev (a b : Ac) (ha : a.Sm) (hb : b.Sm) : Gives 179 [a.w, b.w] (V.bool (decide (a = b))) := by
  have h1 := SEqual_ev a.expr b.expr ha.len hb.len
  obtain ⟨n1, y1, e1⟩ := a
  obtain ⟨n2, y2, e2⟩ := b
  simp only [Ac.mk.injEq] at h1 ⊢
  refine .intro Tryz.func179 (by kernel_rfl) (h1.imp fun k h1 ro gl => ?_)
  by_cases c1 : n1 = n2
  · subst c1
    by_cases c2 : y1 = y2
    · subst c2
      by_cases c3 : e1 = e2
      · subst c3
        simp -implicitDefEqProofs [Tryz.f179, Ac.w, h1]
      · simp -implicitDefEqProofs [Tryz.f179, Ac.w, h1, c3]
    · simp -implicitDefEqProofs [Tryz.f179, Ac.w, c2]
  · simp -implicitDefEqProofs [Tryz.f179, Ac.w, c1]
def aeS (a b : List Ac) (i : Nat) (gl : List (List W)) (ro : Nat) : St := st 32 [(1, .c (L (b.map Ac.c))), (2, .c (.w (.fn 179 []))), (15, .c (L (a.map Ac.c))), (16, V.int .i64 a.length), (17, V.int .i64 i)] [] [] gl ro
theorem ae_loop (a b : List Ac) (hl : a.length < 1000000) (he : a.length = b.length) (ha : ∀ x ∈ a, x.Sm) (hb : ∀ x ∈ b, x.Sm) : Evt fun k => ∀ gl ro S, S.hav [1, 2, 15, 16, 17] = aeS a b 0 gl ro →
    loopA (evC Tryz.prog cf 178 (ev k) k (bodyOf Tryz.f178 0)) [1, 2, 15, 16, 17] [6] k S = some (if a = b then (.exit 0, aeS a b a.length gl ro) else (.ret, st 32 [(6, V.bool false)] [] [] gl ro)) := by
  have hs : Evt fun k => ∀ x ∈ a, ∀ y ∈ b, ∀ ro gl, ev k 179 [x.w, y.w] ro gl = some (V.bool (decide (x = y)), gl) := Evt.all a fun x hx => Evt.all b fun y hy => sameAct_ev x y (ha x hx) (hb y hy)
  refine (hs.and (Evt.ge (a.length + 1))).imp fun k ⟨hs, hk⟩ gl ro S hS => ?_
  refine loop_by (keep := [1, 2, 15, 16, 17]) (res := [6]) (fun i : Nat => aeS a b i gl ro) (fun i => i ≤ a.length) (fun i => a.length - i) (fun i => if a.drop i = b.drop i then (.exit 0, aeS a b a.length gl ro) else (.ret, st 32 [(6, V.bool false)] [] [] gl ro)) ?_ k 0 S (Nat.zero_le _) (by omega) hS
  intro i hi
  by_cases h : i = a.length
  · subst h
    refine .inr (.inl ⟨0, aeS a b a.length gl ro, ?_, ?_⟩)
    · simp -implicitDefEqProofs [aeS, bodyOf, loopsOf, hv, Tryz.f178]
    · rw [List.drop_of_length_le (Nat.le_refl _), List.drop_of_length_le (by omega), if_pos rfl]
  · have h1 : i < a.length := by omega
    have h2 : i < b.length := by omega
    have h1' : (i : Int) < a.length := by omega
    have h2' : (i : Int) < b.length := by omega
    have da : a.drop i = a[i] :: a.drop (i + 1) := List.drop_eq_getElem_cons h1
    have db : b.drop i = b[i] :: b.drop (i + 1) := List.drop_eq_getElem_cons h2
    have ca : a[i]? = some a[i] := List.getElem?_eq_getElem h1
    have cb : b[i]? = some b[i] := List.getElem?_eq_getElem h2
    have hq := hs a[i] (List.getElem_mem h1) b[i] (List.getElem_mem h2)
    generalize a[i] = x at da ca hq
    generalize b[i] = y at db cb hq
    have w : IntKind.i64.wrap ((i : Int) + 1) = (i : Int) + 1 := i64w _ (by omega)
    have hx : a[i] = x := (List.getElem?_eq_some_iff.1 ca).2
    have hy : b[i] = y := (List.getElem?_eq_some_iff.1 cb).2
    have hdec : (a.drop i = b.drop i) = (x = y ∧ a.drop (i + 1) = b.drop (i + 1)) := by rw [da, db]; simp
    by_cases hxy : x = y
    · rw [decide_eq_true hxy] at hq
      obtain ⟨n1, y1, e1⟩ := x
      obtain ⟨n2, y2, e2⟩ := y
      simp [Ac.w] at hq
      refine .inl ⟨i + 1, by omega, by omega, ?_, by simp only [hdec, hxy, true_and]⟩
      simp -implicitDefEqProofs [aeS, bodyOf, loopsOf, hv, Tryz.f178, h1, h2, h1', h2', hx, hy, Ac.c, w, hq]
    · rw [decide_eq_false hxy] at hq
      refine .inr (.inr ⟨st 32 [(6, V.bool false)] [] [] gl ro, ?_, by simp only [hdec, hxy, false_and, if_false]⟩)
      obtain ⟨n1, y1, e1⟩ := x
      obtain ⟨n2, y2, e2⟩ := y
      simp [Ac.w] at hq
      simp -implicitDefEqProofs [aeS, bodyOf, loopsOf, hv, Tryz.f178, h1, h2, h1', h2', hx, hy, Ac.c, w, hq]
theorem AEqual_ev (a b : List Ac) (hl : a.length < 1000000) (hl' : b.length < 1000000) (ha : ∀ x ∈ a, x.Sm) (hb : ∀ x ∈ b, x.Sm) : Gives 178 [L (a.map Ac.c), L (b.map Ac.c), .w (.fn 179 [])] (V.bool (decide (a = b))) := by
  by_cases he : a.length = b.length
  · have he' : (a.length : Int) = b.length := by omega
    refine .intro Tryz.func178 (by kernel_rfl) ((ae_loop a b hl he ha hb).imp fun k h ro gl => ?_)
    have tail : ∀ S : St, S.hav [1, 2, 15, 16, 17] = aeS a b 0 gl gl.length → loopC Tryz.prog cf 178 (ev k) k (bodyOf Tryz.f178 0) S = _ := fun S hS => h gl gl.length S hS
    simp -implicitDefEqProofs [Tryz.f178, he']
    refine bind_go (tail _ ?_) ?_
    · simp [aeS, he]
    · by_cases hab : a = b
      · rw [if_pos hab]; simp [hab, aeS]
      · rw [if_neg hab]; simp [hab]
  · have he' : ¬ (a.length : Int) = b.length := by omega
    have hab : ¬ a = b := fun e => he (by rw [e])
    refine .intro Tryz.func178 (by kernel_rfl) (.of fun k ro gl => ?_)
    simp -implicitDefEqProofs [Tryz.f178, he, he', hab]
def rsaS (a b : List Ac) (i : Nat) (gl : List (List W)) (ro : Nat) : St := st 55 [(0, .c (L (a.map Ac.c))), (1, .c (L (b.map Ac.c))), (5, V.int .i64 i)] [] [] gl ro
theorem rsa_loop (a b : List Ac) (hl : a.length < 1000000) (he : a.length = b.length) (ha : ∀ x ∈ a, x.Sm) (hb : ∀ x ∈ b, x.Sm) : Evt fun k => ∀ gl ro S, S.hav [0, 1, 5] = rsaS a b 0 gl ro →
    loopA (evC Tryz.prog cf 31 (ev k) k (bodyOf Tryz.f31 0)) [0, 1, 5] [4] k S = some (if a = b then (.exit 0, rsaS a b a.length gl ro) else (.ret, st 55 [(4, V.bool false)] [] [] gl ro)) := by
  have hs : Evt fun k => ∀ x ∈ a, ∀ y ∈ b, ∀ ro gl, ev k 84 [L (x.expr.map Tm.c), L (y.expr.map Tm.c)] ro gl = some (V.bool (decide (x.expr = y.expr)), gl) := Evt.all a fun x hx => Evt.all b fun y hy => Same_ev x.expr y.expr (ha x hx).len (hb y hy).len
  refine (hs.and (Evt.ge (a.length + 1))).imp fun k ⟨hs, hk⟩ gl ro S hS => ?_
  refine loop_by (keep := [0, 1, 5]) (res := [4]) (fun i : Nat => rsaS a b i gl ro) (fun i => i ≤ a.length) (fun i => a.length - i) (fun i => if a.drop i = b.drop i then (.exit 0, rsaS a b a.length gl ro) else (.ret, st 55 [(4, V.bool false)] [] [] gl ro)) ?_ k 0 S (Nat.zero_le _) (by omega) hS
  intro i hi
  by_cases h : i = a.length
  · subst h
    refine .inr (.inl ⟨0, rsaS a b a.length gl ro, ?_, ?_⟩)
    · simp -implicitDefEqProofs [rsaS, bodyOf, loopsOf, hv, Tryz.f31]
    · rw [List.drop_of_length_le (Nat.le_refl _), List.drop_of_length_le (by omega), if_pos rfl]
  · have h1 : i < a.length := by omega
    have h2 : i < b.length := by omega
    have h1' : (i : Int) < a.length := by omega
    have h2' : (i : Int) < b.length := by omega
    have da : a.drop i = a[i] :: a.drop (i + 1) := List.drop_eq_getElem_cons h1
    have db : b.drop i = b[i] :: b.drop (i + 1) := List.drop_eq_getElem_cons h2
    have ca : a[i]? = some a[i] := List.getElem?_eq_getElem h1
    have cb : b[i]? = some b[i] := List.getElem?_eq_getElem h2
    have hq := hs a[i] (List.getElem_mem h1) b[i] (List.getElem_mem h2)
    generalize a[i] = x at da ca hq
    generalize b[i] = y at db cb hq
    have w : IntKind.i64.wrap ((i : Int) + 1) = (i : Int) + 1 := i64w _ (by omega)
    have hx : a[i] = x := (List.getElem?_eq_some_iff.1 ca).2
    have hy : b[i] = y := (List.getElem?_eq_some_iff.1 cb).2
    have hdec : (a.drop i = b.drop i) = (x = y ∧ a.drop (i + 1) = b.drop (i + 1)) := by rw [da, db]; simp
    obtain ⟨n1, y1, e1⟩ := x
    obtain ⟨n2, y2, e2⟩ := y
    simp only [Ac.mk.injEq] at hq hdec
    by_cases c1 : n1 = n2
    · subst c1
      by_cases c2 : y1 = y2
      · subst c2
        by_cases c3 : e1 = e2
        · subst c3
          refine .inl ⟨i + 1, by omega, by omega, ?_, by simp only [hdec, true_and]⟩
          simp at hq
          simp -implicitDefEqProofs [rsaS, bodyOf, loopsOf, hv, Tryz.f31, h1, h2, h1', h2', hx, hy, Ac.c, w, hq]
        · refine .inr (.inr ⟨st 55 [(4, V.bool false)] [] [] gl ro, ?_, by simp only [hdec, c3, and_false, false_and, if_false]⟩)
          simp [c3] at hq
          simp -implicitDefEqProofs [rsaS, bodyOf, loopsOf, hv, Tryz.f31, h1, h2, h1', h2', hx, hy, Ac.c, w, hq]
      · refine .inr (.inr ⟨st 55 [(4, V.bool false)] [] [] gl ro, ?_, by simp only [hdec, c2, and_false, false_and, if_false]⟩)
        simp -implicitDefEqProofs [rsaS, bodyOf, loopsOf, hv, Tryz.f31, h1, h2, h1', h2', hx, hy, Ac.c, w, c2]
    · refine .inr (.inr ⟨st 55 [(4, V.bool false)] [] [] gl ro, ?_, by simp only [hdec, c1, and_false, false_and, if_false]⟩)
      simp -implicitDefEqProofs [rsaS, bodyOf, loopsOf, hv, Tryz.f31, h1, h2, h1', h2', hx, hy, Ac.c, w, c1]
theorem rASame_ev (a b : List Ac) (hl : a.length < 1000000) (hl' : b.length < 1000000) (ha : ∀ x ∈ a, x.Sm) (hb : ∀ x ∈ b, x.Sm) : Gives 31 [L (a.map Ac.c), L (b.map Ac.c)] (V.bool (decide (a = b))) := by
  by_cases he : a.length = b.length
  · have he' : (a.length : Int) = b.length := by omega
    refine .intro Tryz.func31 (by kernel_rfl) ((rsa_loop a b hl he ha hb).imp fun k h ro gl => ?_)
    have tail : ∀ S : St, S.hav [0, 1, 5] = rsaS a b 0 gl gl.length → loopC Tryz.prog cf 31 (ev k) k (bodyOf Tryz.f31 0) S = _ := fun S hS => h gl gl.length S hS
    simp -implicitDefEqProofs [Tryz.f31, he']
    refine bind_go (tail _ ?_) ?_
    · simp [rsaS]
    · by_cases hab : a = b
      · rw [if_pos hab]; simp [hab, rsaS]
      · rw [if_neg hab]; simp [hab]
  · have he' : ¬ (a.length : Int) = b.length := by omega
    have hab : ¬ a = b := fun e => he (by rw [e])
    refine .intro Tryz.func31 (by kernel_rfl) (.of fun k ro gl => ?_)
    simp -implicitDefEqProofs [Tryz.f31, he, he', hab]
structure Tn.Sm (t : Tn) : Prop where
  len : t.guard.length < 2305843009213693952
  alen : t.acts.length < 1000000
  acts : ∀ a ∈ t.acts, a.Sm
theorem tn_eq (t u : Tn) : (t = u) = (t.event = u.event ∧ t.target = u.target ∧ t.guard = u.guard ∧ t.acts = u.acts) := by
  rw [eq_iff_iff]
  constructor
  · rintro rfl; exact ⟨rfl, rfl, rfl, rfl⟩
  · obtain ⟨a, b, c, d⟩ := t
    obtain ⟨a', b', c', d'⟩ := u
    rintro ⟨h1, h2, h3, h4⟩
    simp only at h1 h2 h3 h4
    rw [h1, h2, h3, h4]
theorem TSame_ev (t u : Tn) (ht : t.Sm) (hu : u.Sm) : Gives 125 [t.w, u.w] (V.bool (decide (t = u))) := by
  have h1 := SEqual_ev t.guard u.guard ht.len hu.len
  have h2 := AEqual_ev t.acts u.acts ht.alen hu.alen ht.acts hu.acts
  have e := tn_eq t u
  simp only [e]
  obtain ⟨v1, g1, a1, t1⟩ := t
  obtain ⟨v2, g2, a2, t2⟩ := u
  simp only at h1 h2 ⊢
  refine .intro Tryz.func125 (by kernel_rfl) ((h1.and h2).imp fun k ⟨h1, h2⟩ ro gl => ?_)
  by_cases c1 : v1 = v2
  · subst c1
    by_cases c2 : t1 = t2
    · subst c2
      by_cases c3 : g1 = g2
      · subst c3
        by_cases c4 : a1 = a2
        · subst c4
          simp at h1 h2
          simp -implicitDefEqProofs [Tryz.f125, Tn.w, h1, h2]
        · simp [c4] at h1 h2
          simp -implicitDefEqProofs [Tryz.f125, Tn.w, h1, h2, c4]
      · simp [c3] at h1
        simp -implicitDefEqProofs [Tryz.f125, Tn.w, h1, c3]
    · simp -implicitDefEqProofs [Tryz.f125, Tn.w, c2]
  · simp -implicitDefEqProofs [Tryz.f125, Tn.w, c1]
theorem rTSame_ev (t u : Tn) (ht : t.Sm) (hu : u.Sm) : Gives 165 [t.w, u.w] (V.bool (decide (t = u))) := by
  have h1 := Same_ev t.guard u.guard ht.len hu.len
  have h2 := rASame_ev t.acts u.acts ht.alen hu.alen ht.acts hu.acts
  have e := tn_eq t u
  simp only [e]
  obtain ⟨v1, g1, a1, t1⟩ := t
  obtain ⟨v2, g2, a2, t2⟩ := u
  simp only at h1 h2 ⊢
  refine .intro Tryz.func165 (by kernel_rfl) ((h1.and h2).imp fun k ⟨h1, h2⟩ ro gl => ?_)
  by_cases c1 : v1 = v2
  · subst c1
    by_cases c2 : t1 = t2
    · subst c2
      by_cases c3 : g1 = g2
      · subst c3
        by_cases c4 : a1 = a2
        · subst c4
          simp at h1 h2
          simp -implicitDefEqProofs [Tryz.f165, Tn.w, h1, h2]
        · simp [c4] at h1 h2
          simp -implicitDefEqProofs [Tryz.f165, Tn.w, h1, h2, c4]
      · simp [c3] at h1
        simp -implicitDefEqProofs [Tryz.f165, Tn.w, h1, c3]
    · simp -implicitDefEqProofs [Tryz.f165, Tn.w, c2]
  · simp -implicitDefEqProofs [Tryz.f165, Tn.w, c1]
end Go.Proofs.YtckonoejmjblfaaGreatDoor.Ev
