/- Layers 7 to 9: which inputs are light; the example of layer 9. -/
import Derived.Test.YtkklkkppedociaaGreatDoorPkTrnC
import Derived.Test.YtkklkkppedociaaGreatDoorPkSam
set_option linter.unusedVariables false
set_option linter.unusedSimpArgs false
set_option maxRecDepth 100000
set_option maxHeartbeats 4000000
namespace Go.Proofs.YtkklkkppedociaaGreatDoor.Ev
open Go Go.RowKit

def lightB (l : List Tm) : Bool := decide (l.length ≤ 60) && l.all fun t => decide (t.name.length ≤ 100)
abbrev env0 : List W := [.d (.sl []), .d (.int .i64 0), .d (.int .i64 0), .d (.int .i64 0), .d (.int .i64 0), .d (.sl [])]
def lgS (l : List Tm) (i : Nat) (gl : List (List W)) (ro : Nat) : St := st 65 [(0, .c (L (l.map Tm.c))), (3, .c (.w (.box 3 0))), (5, V.int .i64 i)] [(3, env0)] [] gl ro
theorem lg_loop (k : Nat) (l : List Tm) (hl : l.length ≤ 60) (hk : l.length + 1 ≤ k) (gl : List (List W)) (ro : Nat) (S : St) (hS : S.hav [0, 3, 5] = lgS l 0 gl ro) :
    loopA (evC Tryz.prog cf 37 (ev k) k (bodyOf Tryz.f37 0)) [0, 3, 5] [4] k S = some (if (l.all fun t => decide (t.name.length ≤ 100)) = true then (.exit 0, lgS l l.length gl ro) else (.ret, st 65 [(4, V.bool false)] [] [] gl ro)) := by
  refine loop_by (keep := [0, 3, 5]) (res := [4]) (fun i : Nat => lgS l i gl ro) (fun i => i ≤ l.length) (fun i => l.length - i) (fun i => if ((l.drop i).all fun t => decide (t.name.length ≤ 100)) = true then (.exit 0, lgS l l.length gl ro) else (.ret, st 65 [(4, V.bool false)] [] [] gl ro)) ?_ k 0 S (Nat.zero_le _) (by omega) hS
  intro i hi
  by_cases hi' : i = l.length
  · subst hi'
    refine .inr (.inl ⟨0, lgS l l.length gl ro, ?_, ?_⟩)
    · simp -implicitDefEqProofs [lgS, bodyOf, loopsOf, hv, Tryz.f37]
    · rw [List.drop_of_length_le (Nat.le_refl _)]; rfl
  · have h1 : i < l.length := by omega
    have h1' : (i : Int) < l.length := by omega
    have da : l.drop i = l[i] :: l.drop (i + 1) := List.drop_eq_getElem_cons h1
    have ca : l[i]? = some l[i] := List.getElem?_eq_getElem h1
    generalize l[i] = x at da ca
    have w : IntKind.i64.wrap ((i : Int) + 1) = (i : Int) + 1 := i64w _ (by omega)
    have hx : l[i] = x := (List.getElem?_eq_some_iff.1 ca).2
    by_cases hp : x.name.length ≤ 100
    · have hp' : ¬ (100 : Int) < x.name.length := by omega
      refine .inl ⟨i + 1, by omega, by omega, ?_, ?_⟩
      · simp -implicitDefEqProofs [lgS, bodyOf, loopsOf, hv, Tryz.f37, h1, h1', hx, Tm.c, w, hp']
      · rw [da, List.all_cons, decide_eq_true hp, Bool.true_and]
    · have hp' : (100 : Int) < x.name.length := by omega
      refine .inr (.inr ⟨st 65 [(4, V.bool false)] [] [] gl ro, ?_, ?_⟩)
      · simp -implicitDefEqProofs [lgS, bodyOf, loopsOf, hv, Tryz.f37, h1, h1', hx, Tm.c, w, hp']
      · rw [da, List.all_cons, decide_eq_false hp, Bool.false_and, if_neg (by decide)]
theorem Light07_ev (l : List Tm) : Gives 37 [L (l.map Tm.c), .agg env0] (V.bool (lightB l)) := by
  unfold lightB
  by_cases h6 : l.length ≤ 60
  · rw [decide_eq_true h6, Bool.true_and]
    have j6 : ¬ (60 : Int) < l.length := by omega
    refine .intro Tryz.func37 (by kernel_rfl) ((Evt.ge (l.length + 4)).imp fun k hk ro gl => ?_)
    have tail : ∀ S : St, S.hav [0, 3, 5] = lgS l 0 gl gl.length → loopC Tryz.prog cf 37 (ev k) k (bodyOf Tryz.f37 0) S = _ := fun S hS => lg_loop k l h6 (by omega) gl gl.length S hS
    obtain ⟨k', hk'⟩ : ∃ k', k = k' + 1 := ⟨k - 1, by omega⟩
    have t2 : ∀ S : St, S.hav [3, 6] = st 65 [(3, .c (.w (.box 3 0))), (6, V.int .i64 0)] [(3, env0)] [] gl gl.length → loopA (evC Tryz.prog cf 37 (ev k) k (bodyOf Tryz.f37 1)) [3, 6] [4] k S = some (.exit 2, st 65 [(3, .c (.w (.box 3 0))), (6, V.int .i64 0)] [(3, env0)] [] gl gl.length) := fun S hS => by
      have : ∀ n, loopA (evC Tryz.prog cf 37 (ev k) k (bodyOf Tryz.f37 1)) [3, 6] [4] (n + 1) S = some (.exit 2, st 65 [(3, .c (.w (.box 3 0))), (6, V.int .i64 0)] [(3, env0)] [] gl gl.length) := fun n => by
        refine loop_exit ?_
        rw [hS]
        simp -implicitDefEqProofs [bodyOf, loopsOf, hv, Tryz.f37]
      rw [hk']
      rw [hk'] at this
      exact this k'
    have t3 : ∀ S : St, S.hav [3, 7] = st 65 [(3, .c (.w (.box 3 0))), (7, V.int .i64 0)] [(3, env0)] [] gl gl.length → loopA (evC Tryz.prog cf 37 (ev k) k (bodyOf Tryz.f37 2)) [3, 7] [4] k S = some (.exit 4, st 65 [(3, .c (.w (.box 3 0))), (7, V.int .i64 0)] [(3, env0)] [] gl gl.length) := fun S hS => by
      have : ∀ n, loopA (evC Tryz.prog cf 37 (ev k) k (bodyOf Tryz.f37 2)) [3, 7] [4] (n + 1) S = some (.exit 4, st 65 [(3, .c (.w (.box 3 0))), (7, V.int .i64 0)] [(3, env0)] [] gl gl.length) := fun n => by
        refine loop_exit ?_
        rw [hS]
        simp -implicitDefEqProofs [bodyOf, loopsOf, hv, Tryz.f37]
      rw [hk']
      rw [hk'] at this
      exact this k'
    have tail2 : ∀ S : St, S.hav [3, 6] = st 65 [(3, .c (.w (.box 3 0))), (6, V.int .i64 0)] [(3, env0)] [] gl gl.length → loopC Tryz.prog cf 37 (ev k) k (bodyOf Tryz.f37 1) S = _ := t2
    have tail3 : ∀ S : St, S.hav [3, 7] = st 65 [(3, .c (.w (.box 3 0))), (7, V.int .i64 0)] [(3, env0)] [] gl gl.length → loopC Tryz.prog cf 37 (ev k) k (bodyOf Tryz.f37 2) S = _ := t3
    clear hk' t2 t3
    simp -implicitDefEqProofs [Tryz.f37, j6]
    refine bind_go (tail _ ?_) ?_
    · simp [lgS]
    · by_cases ha : (l.all fun t => decide (t.name.length ≤ 100)) = true
      · rw [if_pos ha, ha]
        simp -implicitDefEqProofs [lgS]
        refine bind_go (tail2 _ ?_) ?_
        · simp
        · simp -implicitDefEqProofs
          refine bind_go (tail3 _ ?_) ?_
          · simp
          · simp -implicitDefEqProofs
      · rw [if_neg ha]
        have ha : (l.all fun t => decide (t.name.length ≤ 100)) = false := by simpa using ha
        rw [ha]
        simp
  · rw [decide_eq_false h6, Bool.false_and]
    have j6 : (60 : Int) < l.length := by omega
    refine .intro Tryz.func37 (by kernel_rfl) (.of fun k ro gl => ?_)
    simp -implicitDefEqProofs [Tryz.f37, j6]
def okA (a : Ac) : Bool := decide (a.name.length ≤ 100) && lightB a.expr
def light8 (l : List Ac) : Bool := (l.take 20).all okA && decide (l.length < 20)
def l8S (l : List Ac) (i : Nat) (gl : List (List W)) (ro : Nat) : St := st 34 [(0, .c (L (l.map Ac.c))), (3, V.int .i64 i)] [] [] gl ro
theorem l8_loop (l : List Ac) : Evt fun k => ∀ gl ro S, S.hav [0, 3] = l8S l 0 gl ro →
    loopA (evC Tryz.prog cf 38 (ev k) k (bodyOf Tryz.f38 0)) [0, 3] [2] k S = some (if (l.take 20).all okA = true then (.exit 0, l8S l (min 20 l.length) gl ro) else (.ret, st 34 [(2, V.bool false)] [] [] gl ro)) := by
  have hs : Evt fun k => ∀ x ∈ l, ∀ ro gl, ev k 37 [L (x.expr.map Tm.c), .agg env0] ro gl = some (V.bool (lightB x.expr), gl) := Evt.all l fun x hx => Light07_ev x.expr
  refine (hs.and (Evt.ge 21)).imp fun k ⟨hs, hk⟩ gl ro S hS => ?_
  have hlen : (l.take 20).length = min 20 l.length := List.length_take
  refine loop_by (keep := [0, 3]) (res := [2]) (fun i : Nat => l8S l i gl ro) (fun i => i ≤ min 20 l.length) (fun i => min 20 l.length - i) (fun i => if ((l.take 20).drop i).all okA = true then (.exit 0, l8S l (min 20 l.length) gl ro) else (.ret, st 34 [(2, V.bool false)] [] [] gl ro)) ?_ k 0 S (Nat.zero_le _) (by omega) hS
  intro i hi
  by_cases hi' : i = min 20 l.length
  · refine .inr (.inl ⟨0, l8S l (min 20 l.length) gl ro, ?_, ?_⟩)
    · rw [← hi']
      by_cases hb : i < l.length
      · have hb' : (i : Int) < l.length := by omega
        have h20 : ¬ (i : Int) < 20 := by omega
        simp -implicitDefEqProofs [l8S, bodyOf, loopsOf, hv, Tryz.f38, hb, hb', h20]
      · have hb' : ¬ (i : Int) < l.length := by omega
        simp -implicitDefEqProofs [l8S, bodyOf, loopsOf, hv, Tryz.f38, hb, hb']
    · rw [List.drop_of_length_le (by omega)]; rfl
  · have h1 : i < l.length := by omega
    have h20 : i < 20 := by omega
    have h1' : (i : Int) < l.length := by omega
    have h20' : (i : Int) < 20 := by omega
    have hlt : i < (l.take 20).length := by omega
    have hg : (l.take 20)[i] = l[i] := List.getElem_take
    have da : (l.take 20).drop i = l[i] :: (l.take 20).drop (i + 1) := by rw [List.drop_eq_getElem_cons hlt, hg]
    have ca : l[i]? = some l[i] := List.getElem?_eq_getElem h1
    have hq := hs l[i] (List.getElem_mem h1)
    generalize l[i] = x at da ca hq
    have w : IntKind.i64.wrap ((i : Int) + 1) = (i : Int) + 1 := i64w _ (by omega)
    have hx : l[i] = x := (List.getElem?_eq_some_iff.1 ca).2
    have hok : okA x = (decide (x.name.length ≤ 100) && lightB x.expr) := rfl
    obtain ⟨nm, an, ex⟩ := x
    simp only at hq hok
    generalize lightB ex = b at hq hok
    by_cases hp : nm.length ≤ 100
    · have hp' : ¬ (100 : Int) < nm.length := by omega
      rw [decide_eq_true hp, Bool.true_and] at hok
      cases b with
      | true =>
        refine .inl ⟨i + 1, by omega, by omega, ?_, ?_⟩
        · simp -implicitDefEqProofs [l8S, bodyOf, loopsOf, hv, Tryz.f38, h1, h1', h20, h20', hx, Ac.c, w, hp', hq]
        · rw [da, List.all_cons, hok, Bool.true_and]
      | false =>
        refine .inr (.inr ⟨st 34 [(2, V.bool false)] [] [] gl ro, ?_, ?_⟩)
        · simp -implicitDefEqProofs [l8S, bodyOf, loopsOf, hv, Tryz.f38, h1, h1', h20, h20', hx, Ac.c, w, hp', hq]
        · rw [da, List.all_cons, hok, Bool.false_and, if_neg (by decide)]
    · have hp' : (100 : Int) < nm.length := by omega
      rw [decide_eq_false hp, Bool.false_and] at hok
      refine .inr (.inr ⟨st 34 [(2, V.bool false)] [] [] gl ro, ?_, ?_⟩)
      · simp -implicitDefEqProofs [l8S, bodyOf, loopsOf, hv, Tryz.f38, h1, h1', h20, h20', hx, Ac.c, w, hp']
      · rw [da, List.all_cons, hok, Bool.false_and, if_neg (by decide)]
theorem Light08_ev (l : List Ac) : Gives 38 [L (l.map Ac.c)] (V.bool (light8 l)) := by
  unfold light8
  refine .intro Tryz.func38 (by kernel_rfl) ((l8_loop l).imp fun k h ro gl => ?_)
  have tail : ∀ S : St, S.hav [0, 3] = l8S l 0 gl gl.length → loopC Tryz.prog cf 38 (ev k) k (bodyOf Tryz.f38 0) S = _ := fun S hS => h gl gl.length S hS
  simp -implicitDefEqProofs [Tryz.f38]
  refine bind_go (tail _ ?_) ?_
  · simp [l8S]
  · by_cases ha : (l.take 20).all okA = true
    · rw [if_pos ha, ha]
      by_cases hb : l.length < 20
      · have hb' : (l.length : Int) < 20 := by omega
        simp -implicitDefEqProofs [l8S, hb, hb']
      · have hb' : ¬ (l.length : Int) < 20 := by omega
        simp -implicitDefEqProofs [l8S, hb, hb']
    · rw [if_neg ha]
      have ha : (l.take 20).all okA = false := by simpa using ha
      rw [ha]
      simp
def lightT (t : Tn) : Bool := decide (t.event.length ≤ 100) && (decide (t.target.length ≤ 100) && (lightB t.guard && light8 t.acts))
theorem Light09_ev (t : Tn) : Gives 16 [t.w] (V.bool (lightT t)) := by
  unfold lightT
  have h1 := Light07_ev t.guard
  have h2 := Light08_ev t.acts
  obtain ⟨ev', gd, ac, tg⟩ := t
  simp only at h1 h2 ⊢
  refine .intro Tryz.func16 (by kernel_rfl) ((h1.and h2).imp fun k ⟨h1, h2⟩ ro gl => ?_)
  generalize lightB gd = b1 at h1 ⊢
  generalize light8 ac = b2 at h2 ⊢
  by_cases c1 : ev'.length ≤ 100
  · have c1' : (ev'.length : Int) ≤ 100 := by omega
    by_cases c2 : tg.length ≤ 100
    · have c2' : (tg.length : Int) ≤ 100 := by omega
      cases b1 with
      | true => cases b2 <;> simp -implicitDefEqProofs [Tryz.f16, Tn.w, h1, h2, c1, c1', c2, c2']
      | false => simp -implicitDefEqProofs [Tryz.f16, Tn.w, h1, c1, c1', c2, c2']
    · have c2' : ¬ (tg.length : Int) ≤ 100 := by omega
      simp -implicitDefEqProofs [Tryz.f16, Tn.w, c1, c1', c2, c2']
  · have c1' : ¬ (ev'.length : Int) ≤ 100 := by omega
    simp -implicitDefEqProofs [Tryz.f16, Tn.w, c1, c1']
theorem lightB_spec {l : List Tm} (h : lightB l = true) : l.length ≤ 60 ∧ ∀ t ∈ l, t.name.length ≤ 100 := by
  unfold lightB at h
  simp only [Bool.and_eq_true, decide_eq_true_eq, List.all_eq_true] at h
  exact h
theorem lightT_spec {t : Tn} (h : lightT t = true) : t.Ok ∧ t.Sm := by
  unfold lightT light8 at h
  simp only [Bool.and_eq_true, decide_eq_true_eq] at h
  obtain ⟨h1, h2, h3, h4, h5⟩ := h
  obtain ⟨g1, g2⟩ := lightB_spec h3
  rw [List.take_of_length_le (by omega), List.all_eq_true] at h4
  have ha : ∀ a ∈ t.acts, a.name.length ≤ 100 ∧ a.expr.length ≤ 60 ∧ ∀ t ∈ a.expr, t.name.length ≤ 100 := fun a hm => by
    have := h4 a hm
    unfold okA at this
    simp only [Bool.and_eq_true, decide_eq_true_eq] at this
    exact ⟨this.1, lightB_spec this.2⟩
  exact ⟨⟨by omega, by omega, by omega, fun u hu => by have := g2 u hu; omega, by omega, fun a hm => ⟨by have := (ha a hm).1; omega, by have := (ha a hm).2.1; omega, fun u hu => by have := (ha a hm).2.2 u hu; omega⟩⟩,
    ⟨by omega, by omega, fun a hm => ⟨by have := (ha a hm).2.1; omega⟩⟩⟩
/-! The example. -/
def ta1 : Tn := ⟨[111, 112, 101, 110], [⟨15, 0, []⟩, ⟨2, 0, [110]⟩, ⟨1, 3, []⟩], [⟨[110], true, []⟩], [111, 112, 101, 110, 101, 100]⟩
abbrev tt1 : List UInt8 := [111, 110, 32, 111, 112, 101, 110, 32, 91, 110, 32, 60, 32, 51, 93, 32, 47, 32, 97, 110, 121, 32, 110, 32, 45, 62, 32, 111, 112, 101, 110, 101, 100, 59]
theorem tc1 : checkT ta1 = 0 := by kernel_rfl
theorem tc0 : checkT tn0 = 0 := by kernel_rfl
def te1 : Tr := .two ⟨15, 0, []⟩ (.leaf ⟨2, 0, [110]⟩) (.leaf ⟨1, 3, []⟩)
theorem dg3 : num 3 = [51] := by unfold num; rw [if_neg (by decide), dg_lt (by decide)]; rfl
theorem tp1 : putT ta1 = tt1 := by
  unfold putT ta1
  simp only
  rw [txtV_eq (e := te1) (by simp [te1, Tr.wf, arity]) (by rfl)]
  simp [te1, Tr.txt, brk, Tr.top, levelI, leftI, signB, dg3, putA, actT]
theorem tp0 : putT tn0 = [97, 117, 116, 111, 59] := by simp [putT, tn0]
theorem awake09_ev : Gives 17 [] (V.bool true) := by
  have ok1 : ta1.Ok := ⟨by decide, by decide, by decide, (by intro u hu; simp [ta1] at hu; rcases hu with rfl | rfl | rfl <;> decide), by decide, by intro a ha; simp [ta1] at ha; subst ha; exact ⟨by decide, by decide, (by intro u hu; cases hu)⟩⟩
  have ok0 : tn0.Ok := ⟨by decide, by decide, by decide, (by intro u hu; cases hu), by decide, (by intro a ha; cases ha)⟩
  have sm1 : ta1.Sm := ⟨by decide, by decide, by intro a ha; simp [ta1] at ha; subst ha; exact ⟨by decide⟩⟩
  have sm0 : tn0.Sm := ⟨by decide, by decide, (by intro a ha; cases ha)⟩
  have h1 := TPut_ev ta1 ok1
  have h2 := TPut_ev tn0 ok0
  have h3 := TSame_ev ta1 ta1 sm1 sm1
  have h4 := TSame_ev ta1 tn0 sm1 sm0
  rw [tc1, if_pos rfl, tp1] at h1
  rw [tc0, if_pos rfl, tp0] at h2
  rw [decide_eq_true rfl] at h3
  rw [decide_eq_false (by decide)] at h4
  refine .intro Tryz.func17 (by kernel_rfl) ((h1.and (h2.and (h3.and h4))).imp fun k ⟨h1, h2, h3, h4⟩ ro gl => ?_)
  simp [Tn.w, ta1, tn0, Tm.c, Ac.c] at h1 h2 h3 h4
  simp -implicitDefEqProofs [Tryz.f17, h1, h2, h3, h4]
end Go.Proofs.YtkklkkppedociaaGreatDoor.Ev
