/- Layer 8: the theorem of assignment; which values stand ahead. -/
import Derived.Test.YtkklkkppedociaaGreatPkROneC
import Derived.Test.YtkklkkppedociaaGreatPkLight
import Derived.Test.YtkklkkppedociaaGreatPkAct2
set_option linter.unusedVariables false
set_option linter.unusedSimpArgs false
set_option maxRecDepth 100000
set_option maxHeartbeats 4000000
namespace Go.Proofs.YtkklkkppedociaaGreat.Ev
open Go Go.RowKit

/-! The example. -/
def aw1 : Ac := ⟨[120], true, []⟩
def aw2 : Ac := ⟨[120], false, [⟨4, 0, []⟩, ⟨2, 0, [120]⟩, ⟨1, 1, []⟩]⟩
def awE : En := ⟨[⟨[120], 0, 1, 0⟩], ⟨0, 0, 0, 0⟩, []⟩
def awT : Tr := .two ⟨4, 0, []⟩ (.leaf ⟨2, 0, [120]⟩) (.leaf ⟨1, 1, []⟩)
theorem awR1 : actsV [aw1, aw2] awE = ([⟨1, 0, 0, 0⟩], 0) := by kernel_rfl
theorem awR2 : actsV [aw1] awE = ([⟨0, 0, 0, 0⟩, ⟨1, 0, 0, 0⟩], 0) := by kernel_rfl
theorem awC : checkA [aw1, aw2] = 0 := by kernel_rfl
theorem dg1 : num 1 = [49] := by unfold num; rw [if_neg (by decide), dg_lt (by decide)]; rfl
theorem awP : putA [aw1, aw2] = [97, 110, 121, 32, 120, 44, 32, 120, 32, 58, 61, 32, 120, 32, 43, 32, 49] := by
  simp only [putA, actT, aw1, aw2, if_true, Bool.false_eq_true, if_false]
  rw [txtV_eq (e := awT) (by simp [awT, Tr.wf, arity]) (by rfl)]
  simp [awT, Tr.txt, brk, Tr.top, levelI, leftI, signB, dg1]
theorem awake08_ev : Gives 6 [] (V.bool true) := by
  have ok1 : aw1.Ok := ⟨by decide, by decide, (by intro u hu; cases hu)⟩
  have ok2 : aw2.Ok := ⟨by decide, by decide, (by intro u hu; simp [aw2] at hu; rcases hu with rfl | rfl | rfl <;> decide)⟩
  have okv : ∀ v ∈ awE.vars, v.Ok := by intro v hv; simp [awE] at hv; subst hv; exact ⟨⟨by decide, by decide⟩, ⟨by decide, by decide⟩⟩
  have h1 := Run_ev [aw1, aw2] awE okv (by decide) (by decide) (by intro a ha; simp at ha; rcases ha with rfl | rfl; exact ⟨ok1, by decide⟩; exact ⟨ok2, by decide⟩) (by decide)
  have h2 := Run_ev [aw1] awE okv (by decide) (by decide) (by intro a ha; simp at ha; subst ha; exact ⟨ok1, by decide⟩) (by decide)
  have h3 := APut_ev [aw1, aw2] (by decide) (by intro a ha; simp at ha; rcases ha with rfl | rfl; exact ok1; exact ok2)
  have h4 := Less_ev ⟨0, 0, 0, 0⟩ ⟨1, 0, 0, 0⟩
  rw [awR1] at h1
  rw [awR2] at h2
  rw [awC, if_pos rfl, awP] at h3
  rw [show ltQ ⟨0, 0, 0, 0⟩ ⟨1, 0, 0, 0⟩ = true from by decide] at h4
  refine .intro Tryz.func6 (by kernel_rfl) ((h1.and (h2.and (h3.and h4))).imp fun k ⟨h1, h2, h3, h4⟩ ro gl => ?_)
  simp [aw1, aw2, awE, Ac.c, Tm.c, En.w, En.ws, Vr.c, Q4.r, Q4.w] at h1 h2 h3 h4
  simp -implicitDefEqProofs [Tryz.f6, h1, h2, h3, h4]
end Go.Proofs.YtkklkkppedociaaGreat.Ev

/- Layer 8: the theorem of assignment. -/
set_option linter.unusedVariables false
set_option linter.unusedSimpArgs false
set_option maxRecDepth 100000
set_option maxHeartbeats 4000000
namespace Go.Proofs.YtkklkkppedociaaGreat.Ev
open Go Go.RowKit

def ariS (en : En) (Q : List Q4) (i kk : Nat) (gl : List (List W)) (ro : Nat) : St := st 118 [(3, .c (.w (.box 3 0))), (5, .c (L (Q.map Q4.r))), (9, V.int .i64 i), (10, V.int .i64 kk)] [(3, en.ws)] [] gl ro
def aroS (en : En) (Q : List Q4) (i : Nat) (gl : List (List W)) (ro : Nat) : St := st 118 [(3, .c (.w (.box 3 0))), (5, .c (L (Q.map Q4.r))), (9, V.int .i64 i)] [(3, en.ws)] [] gl ro
theorem ari_round (call : Caller) (N : Nat) (en : En) (Q : List Q4) (i : Nat) (q : Q4) (hq : Q[i]? = some q) (kk : Nat) (hk4 : kk < 4) (v : Vr) (hv' : en.vars[kk]? = some v) (hin : v.lo ≤ en.vals.get kk → en.vals.get kk ≤ v.hi → v.lo ≤ q.get kk ∧ q.get kk ≤ v.hi) (gl : List (List W)) (ro : Nat) :
    ((evC Tryz.prog cf 3 call N (bodyOf Tryz.f3 1)) (ariS en Q i kk gl ro)).map (hv [3, 5, 9, 10]) = some (.normal, ariS en Q i (kk + 1) gl ro) := by
  have hlt : i < Q.length := (List.getElem?_eq_some_iff.1 hq).1
  have hlt' : (i : Int) < Q.length := by omega
  have hxx : Q[i] = q := (List.getElem?_eq_some_iff.1 hq).2
  have vlt : kk < en.vars.length := (List.getElem?_eq_some_iff.1 hv').1
  have vxx : en.vars[kk] = v := (List.getElem?_eq_some_iff.1 hv').2
  have hj : kk = 0 ∨ kk = 1 ∨ kk = 2 ∨ kk = 3 := by omega
  rcases hj with rfl | rfl | rfl | rfl
  · have vlt' : (0 : Int) < en.vars.length := by omega
    simp [Q4.get] at hin
    by_cases c1 : v.lo ≤ en.vals.a
    · by_cases c2 : en.vals.a ≤ v.hi
      · have c3 : ¬ q.a < v.lo := by have := (hin c1 c2).1; omega
        have c4 : ¬ v.hi < q.a := by have := (hin c1 c2).2; omega
        simp -implicitDefEqProofs [ariS, En.ws, bodyOf, loopsOf, hv, Tryz.f3, hlt, hlt', hxx, vlt, vlt', vxx, Vr.c, Q4.r, c1, c2, c3, c4]
      · simp -implicitDefEqProofs [ariS, En.ws, bodyOf, loopsOf, hv, Tryz.f3, hlt, hlt', hxx, vlt, vlt', vxx, Vr.c, Q4.r, c1, c2]
    · simp -implicitDefEqProofs [ariS, En.ws, bodyOf, loopsOf, hv, Tryz.f3, hlt, hlt', hxx, vlt, vlt', vxx, Vr.c, Q4.r, c1]
  · have vlt' : (1 : Int) < en.vars.length := by omega
    simp [Q4.get] at hin
    by_cases c1 : v.lo ≤ en.vals.b
    · by_cases c2 : en.vals.b ≤ v.hi
      · have c3 : ¬ q.b < v.lo := by have := (hin c1 c2).1; omega
        have c4 : ¬ v.hi < q.b := by have := (hin c1 c2).2; omega
        simp -implicitDefEqProofs [ariS, En.ws, bodyOf, loopsOf, hv, Tryz.f3, hlt, hlt', hxx, vlt, vlt', vxx, Vr.c, Q4.r, c1, c2, c3, c4]
      · simp -implicitDefEqProofs [ariS, En.ws, bodyOf, loopsOf, hv, Tryz.f3, hlt, hlt', hxx, vlt, vlt', vxx, Vr.c, Q4.r, c1, c2]
    · simp -implicitDefEqProofs [ariS, En.ws, bodyOf, loopsOf, hv, Tryz.f3, hlt, hlt', hxx, vlt, vlt', vxx, Vr.c, Q4.r, c1]
  · have vlt' : (2 : Int) < en.vars.length := by omega
    simp [Q4.get] at hin
    by_cases c1 : v.lo ≤ en.vals.c
    · by_cases c2 : en.vals.c ≤ v.hi
      · have c3 : ¬ q.c < v.lo := by have := (hin c1 c2).1; omega
        have c4 : ¬ v.hi < q.c := by have := (hin c1 c2).2; omega
        simp -implicitDefEqProofs [ariS, En.ws, bodyOf, loopsOf, hv, Tryz.f3, hlt, hlt', hxx, vlt, vlt', vxx, Vr.c, Q4.r, c1, c2, c3, c4]
      · simp -implicitDefEqProofs [ariS, En.ws, bodyOf, loopsOf, hv, Tryz.f3, hlt, hlt', hxx, vlt, vlt', vxx, Vr.c, Q4.r, c1, c2]
    · simp -implicitDefEqProofs [ariS, En.ws, bodyOf, loopsOf, hv, Tryz.f3, hlt, hlt', hxx, vlt, vlt', vxx, Vr.c, Q4.r, c1]
  · have vlt' : (3 : Int) < en.vars.length := by omega
    simp [Q4.get] at hin
    by_cases c1 : v.lo ≤ en.vals.d
    · by_cases c2 : en.vals.d ≤ v.hi
      · have c3 : ¬ q.d < v.lo := by have := (hin c1 c2).1; omega
        have c4 : ¬ v.hi < q.d := by have := (hin c1 c2).2; omega
        simp -implicitDefEqProofs [ariS, En.ws, bodyOf, loopsOf, hv, Tryz.f3, hlt, hlt', hxx, vlt, vlt', vxx, Vr.c, Q4.r, c1, c2, c3, c4]
      · simp -implicitDefEqProofs [ariS, En.ws, bodyOf, loopsOf, hv, Tryz.f3, hlt, hlt', hxx, vlt, vlt', vxx, Vr.c, Q4.r, c1, c2]
    · simp -implicitDefEqProofs [ariS, En.ws, bodyOf, loopsOf, hv, Tryz.f3, hlt, hlt', hxx, vlt, vlt', vxx, Vr.c, Q4.r, c1]
theorem ari_exit (call : Caller) (N : Nat) (en : En) (Q : List Q4) (i kk : Nat) (hk : kk ≤ 4 ∧ (en.vars.length ≤ kk ∨ kk = 4)) (gl : List (List W)) (ro : Nat) :
    ((evC Tryz.prog cf 3 call N (bodyOf Tryz.f3 1)) (ariS en Q i kk gl ro)).map (hv [3, 5, 9, 10]) = some (.exit 2, ariS en Q i kk gl ro) := by
  by_cases c1 : (kk : Int) < en.vars.length
  · have c2 : kk = 4 := by omega
    subst c2
    have c1' : 4 < en.vars.length := by omega
    have c1'' : (4 : Int) < en.vars.length := by omega
    simp -implicitDefEqProofs [ariS, En.ws, bodyOf, loopsOf, hv, Tryz.f3, c1', c1'']
  · have c1' : ¬ kk < en.vars.length := by omega
    simp -implicitDefEqProofs [ariS, En.ws, bodyOf, loopsOf, hv, Tryz.f3, c1, c1']
theorem ari_loop (call : Caller) (N : Nat) (en : En) (Q : List Q4) (i : Nat) (q : Q4) (hq : Q[i]? = some q) (hin : InR en q) (gl : List (List W)) (ro : Nat) (n : Nat) (hn : 4 < n) (S : St) (hS : S.hav [3, 5, 9, 10] = ariS en Q i 0 gl ro) :
    ∃ kk, loopA (evC Tryz.prog cf 3 call N (bodyOf Tryz.f3 1)) [3, 5, 9, 10] [4] n S = some (.exit 2, ariS en Q i kk gl ro) := by
  refine ⟨min 4 en.vars.length, ?_⟩
  refine loop_by (keep := [3, 5, 9, 10]) (res := [4]) (fun kk : Nat => ariS en Q i kk gl ro) (fun kk => kk ≤ min 4 en.vars.length) (fun kk => min 4 en.vars.length - kk) (fun _ => (.exit 2, ariS en Q i (min 4 en.vars.length) gl ro)) ?_ n 0 S (Nat.zero_le _) (by omega) hS
  intro kk hkk
  by_cases hk : kk = min 4 en.vars.length
  · refine .inr (.inl ⟨2, ariS en Q i kk gl ro, ari_exit call N en Q i kk (by omega) gl ro, by rw [hk]⟩)
  · have cv : en.vars[kk]? = some en.vars[kk] := List.getElem?_eq_getElem (by omega)
    exact .inl ⟨kk + 1, by omega, by omega, ari_round call N en Q i q hq kk (by omega) en.vars[kk] cv (hin kk _ (by omega) cv) gl ro, rfl⟩
theorem aro_loop (en : En) (Q : List Q4) (hQ : Q.length ≤ 64) (hs : Strict Q) (hin : ∀ q ∈ Q, InR en q) : Evt fun k => ∀ gl ro S n, 70 ≤ k → Q.length < n → S.hav [3, 5, 9] = aroS en Q 0 gl ro →
    loopA (evC Tryz.prog cf 3 (ev k) k (bodyOf Tryz.f3 0)) [3, 5, 9] [4] n S = some (.exit 0, aroS en Q Q.length gl ro) := by
  have hL : Evt fun k => ∀ x ∈ Q, ∀ y ∈ Q, ∀ ro gl, ev k 10 [x.w, y.w] ro gl = some (V.bool (ltQ x y), gl) := Evt.all Q fun x _ => Evt.all Q fun y _ => rLess_ev x y
  refine hL.imp fun k hL gl ro S n hk hn hS => ?_
  refine loop_by (keep := [3, 5, 9]) (res := [4]) (fun i : Nat => aroS en Q i gl ro) (fun i => i ≤ Q.length) (fun i => Q.length - i) (fun _ => (.exit 0, aroS en Q Q.length gl ro)) ?_ n 0 S (Nat.zero_le _) (by omega) hS
  intro i hi
  by_cases hi' : i = Q.length
  · subst hi'
    refine .inr (.inl ⟨0, aroS en Q Q.length gl ro, ?_, rfl⟩)
    simp -implicitDefEqProofs [aroS, En.ws, bodyOf, loopsOf, hv, Tryz.f3]
  · have hlt : i < Q.length := by omega
    have hlt' : (i : Int) < Q.length := by omega
    have cq : Q[i]? = some Q[i] := List.getElem?_eq_getElem hlt
    have hmem := List.getElem_mem hlt
    have w : IntKind.i64.wrap ((i : Int) + 1) = (i : Int) + 1 := i64w _ (by omega)
    refine .inl ⟨i + 1, by omega, by omega, ?_, rfl⟩
    obtain ⟨kk, hin'⟩ := ari_loop (ev k) k en Q i Q[i] cq (hin _ hmem) gl ro k (by omega) (ariS en Q i 0 gl ro) (by simp [ariS, En.ws])
    have tail := fun (S : St) (hS : S.hav [3, 5, 9, 10] = ariS en Q i 0 gl ro) => (show loopC Tryz.prog cf 3 (ev k) k (bodyOf Tryz.f3 1) S = loopA (evC Tryz.prog cf 3 (ev k) k (bodyOf Tryz.f3 1)) [3, 5, 9, 10] [4] k (ariS en Q i 0 gl ro) from loopA_hav (keep := [3, 5, 9, 10]) (res := [4]) (by rw [hS]; simp [ariS, En.ws]) (by omega)).trans hin'
    clear hin' hS
    cases i with
    | zero =>
      simp -implicitDefEqProofs [aroS, En.ws, bodyOf, loopsOf, hv, Tryz.f3, hlt, hlt']
      refine bind_go (tail _ ?_) ?_
      · simp [ariS, En.ws]
      · simp -implicitDefEqProofs [aroS, ariS, En.ws, hv]
    | succ p =>
      have hlp : p < Q.length := by omega
      have hmp := List.getElem_mem hlp
      have hlq := hL Q[p] hmp Q[p + 1] hmem
      have hst : ltQ Q[p] Q[p + 1] = true := (List.pairwise_iff_getElem.1 hs) p (p + 1) hlp hlt (by omega)
      rw [hst] at hlq
      generalize hx : Q[p] = x at hlq
      generalize hy : Q[p + 1] = y at hlq
      simp [Q4.w] at hlq
      have p1 : (p : Int) + 1 < Q.length := by omega
      have p2 : (p : Int) < Q.length := by omega
      have p3 : (0 : Int) < (p : Int) + 1 := by omega
      have p4 : (0 : Int) ≤ (p : Int) + 1 := by omega
      have w2 : IntKind.i64.wrap (p : Int) = p := i64w _ (by omega)
      have w3 : IntKind.i64.wrap ((p : Int) + 1 + 1) = (p : Int) + 1 + 1 := i64w _ (by omega)
      simp -implicitDefEqProofs [aroS, En.ws, bodyOf, loopsOf, hv, Tryz.f3, hlt, hlt', hlp, p1, p2, p3, p4, w2, hx, hy, Q4.r, hlq]
      refine bind_go (tail _ ?_) ?_
      · simp [ariS, En.ws]
      · simp -implicitDefEqProofs [aroS, ariS, En.ws, hv, w3]
theorem okA_spec {a : Ac} (h : okA a = true) : a.Ok ∧ a.expr.length < 1000000 := by
  unfold okA lightB at h
  simp only [Bool.and_eq_true, decide_eq_true_eq, List.all_eq_true] at h
  exact ⟨⟨by omega, by omega, fun t ht => by have := h.2.2 t ht; omega⟩, by omega⟩
theorem light8_spec {l : List Ac} (h : light8 l = true) : l.length < 20 ∧ ∀ a ∈ l, a.Ok ∧ a.expr.length < 1000000 := by
  unfold light8 at h
  simp only [Bool.and_eq_true, decide_eq_true_eq] at h
  obtain ⟨h1, h2⟩ := h
  rw [List.take_of_length_le (by omega), List.all_eq_true] at h1
  exact ⟨h2, fun a ha => okA_spec (h1 a ha)⟩
theorem lightE_spec {en : En} (h : lightE en = true) : en.vars.length ≤ 20 ∧ en.ins.length ≤ 80 := by
  unfold lightE at h
  simp only [Bool.and_eq_true, decide_eq_true_eq] at h
  exact ⟨h.1.1, h.1.2⟩
theorem ActRuns_evL (l : List Ac) (en : En) (hr : ∀ v ∈ en.vars, v.Ok) : Gives 3 [L (l.map Ac.c), en.w] (V.bool true) := by
  have h1 := Light08_ev l
  have h2 := Light07E_ev [] en
  rw [show lightB [] = true from rfl, Bool.true_and] at h2
  by_cases c1 : light8 l = true
  · rw [c1] at h1
    obtain ⟨l1, l2⟩ := light8_spec c1
    by_cases c2 : lightE en = true
    · rw [c2] at h2
      obtain ⟨e1, e2⟩ := lightE_spec c2
      have hR := Run_ev l en hr (by omega) (by omega) l2 (by omega)
      have hW := rRun_ev l en hr (by omega) l2 (by omega)
      obtain ⟨hs, hin⟩ := actsV_ok l en
      have hlen : (actsV l en).1.length ≤ 64 := by
        unfold actsV
        split
        · simp
        · split
          · simp
          · exact runV_len en l _ (by simp)
      have hS := same_ev (actsV l en).1 (by omega)
      have hL := aro_loop en (actsV l en).1 hlen hs hin
      refine .intro Tryz.func3 (by kernel_rfl) ((h1.and (h2.and (hR.and (hW.and (hS.and (hL.and (awake08_ev.and (Evt.ge 100)))))))).imp fun k ⟨g1, g2, g3, g4, g5, g6, g7, hk⟩ ro gl => ?_)
      clear h1 h2 hR hW hS hL hs hin
      generalize actsV l en = r at g3 g4 g5 g6 hlen
      obtain ⟨Q, e⟩ := r
      simp only at g3 g4 g5 g6 hlen
      have tail : ∀ S : St, S.hav [3, 5, 9] = aroS en Q 0 gl gl.length → loopC Tryz.prog cf 3 (ev k) k (bodyOf Tryz.f3 0) S = some (.exit 0, aroS en Q Q.length gl gl.length) := fun S hS => g6 gl gl.length S k (by omega) (by omega) hS
      clear g6 hk
      simp [En.w, En.ws] at g2 g3 g4
      simp -implicitDefEqProofs [Tryz.f3, En.w, En.ws, g1, g2, g3, g4, g5]
      refine bind_go (tail _ ?_) ?_
      · simp [aroS, En.ws]
      · simp -implicitDefEqProofs [aroS, g7]
    · have c2 : lightE en = false := by simpa using c2
      rw [c2] at h2
      refine .intro Tryz.func3 (by kernel_rfl) ((h1.and (h2.and awake08_ev)).imp fun k ⟨g1, g2, g7⟩ ro gl => ?_)
      simp [En.w, En.ws] at g2
      simp -implicitDefEqProofs [Tryz.f3, En.w, En.ws, g1, g2, g7]
  · have c1 : light8 l = false := by simpa using c1
    rw [c1] at h1
    refine .intro Tryz.func3 (by kernel_rfl) ((h1.and awake08_ev).imp fun k ⟨g1, g7⟩ ro gl => ?_)
    simp -implicitDefEqProofs [Tryz.f3, En.w, En.ws, g1, g7]
theorem ActRuns_ev (c0 c1 : C) (h0 : ArgOf Tryz.prog 9 22 c0) (h1 : ArgOf Tryz.prog 9 27 c1) : Gives 3 [c0, c1] (V.bool true) := by
  obtain ⟨l, rfl⟩ := arg_acs h0
  obtain ⟨e, rfl, he⟩ := arg_env h1
  exact ActRuns_evL l e he
end Go.Proofs.YtkklkkppedociaaGreat.Ev
