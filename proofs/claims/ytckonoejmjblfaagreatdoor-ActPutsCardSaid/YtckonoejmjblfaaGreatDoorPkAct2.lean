/- Layer 8: acts' texts. -/
import Derived.Test.YtckonoejmjblfaaGreatDoorPkActA
import Derived.Test.YtckonoejmjblfaaGreatDoorPkJoin
set_option linter.unusedVariables false
set_option linter.unusedSimpArgs false
set_option maxRecDepth 100000
set_option maxHeartbeats 4000000
namespace Go.Proofs.YtckonoejmjblfaaGreatDoor.Ev
open Go Go.RowKit

theorem isName_12 {s : List UInt8} (h : isName s = true) : s.length ≤ 12 := by
  unfold isName at h
  simp only [Bool.and_eq_true, decide_eq_true_eq] at h
  exact h.1.1.2
theorem txtV_len {l : List Tm} (h0 : checkV l = 0) : (txtV l).length ≤ 800 := by
  obtain ⟨e, e1, e2, e3, e4, e5⟩ := checkV_tree h0
  rw [txtV_eq e1 e2]
  have := txt_len e e3
  omega
theorem actE_parts {a : Ac} (h : actE a = 0) : isName a.name = true ∧ (a.any = true → a.expr = []) ∧ (a.any = false → checkV a.expr = 0) := by
  unfold actE at h
  cases hn : isName a.name with
  | false => rw [hn, if_pos rfl] at h; cases h
  | true =>
    rw [hn, if_neg (by decide)] at h
    cases ha : a.any with
    | true =>
      rw [ha, if_pos rfl] at h
      split at h
      · rename_i he
        exact ⟨rfl, fun _ => he, fun h => by cases h⟩
      · cases h
    | false =>
      rw [ha, if_neg (by decide)] at h
      exact ⟨rfl, fun h => (by cases h), fun _ => h⟩
theorem actT_len {a : Ac} (h : actE a = 0) : (actT a).length ≤ 820 := by
  obtain ⟨h1, h2, h3⟩ := actE_parts h
  have := isName_12 h1
  unfold actT
  cases ha : a.any with
  | true => simp; omega
  | false =>
    have := txtV_len (h3 ha)
    simp
    omega
theorem putA_join : ∀ l : List Ac, joinB [44, 32] (l.map actT) = putA l
  | [] => rfl
  | [a] => rfl
  | a :: b :: r => by
    have ih := putA_join (b :: r)
    simp only [List.map_cons, joinB, putA] at ih ⊢
    rw [ih]
    rfl
theorem putA_len : ∀ l : List Ac, (∀ a ∈ l, actE a = 0) → (putA l).length ≤ 822 * l.length
  | [], _ => by simp [putA]
  | [a], h => by
    have := actT_len (h a (by simp))
    simp only [putA, List.length_singleton]
    omega
  | a :: b :: r, h => by
    have h1 := actT_len (h a (by simp))
    have ih := putA_len (b :: r) fun x hx => h x (by simp at hx ⊢; exact .inr hx)
    simp only [putA, List.length_append, List.length_cons] at ih ⊢
    omega
theorem hav_c (keep : List Nat) (x : C) : V.hav keep (.c x) = .c (x.hav keep) := rfl
theorem hav_tup (keep : List Nat) (xs : List C) : V.hav keep (.tup xs) = V.un := rfl
abbrev apK : List Nat := [5, 15, 16, 17, 28, 42]
def apS (l : List Ac) (κ : Nat) (acc : List (List UInt8)) (i : Nat) (u v : V) (gl : List (List W)) (ro : Nat) : St :=
  st 46 [(5, if acc = [] then .c (.w (.full [])) else .c (.w (.app κ (acc.map sD)))), (15, .c (L (l.map Ac.c))), (16, V.int .i64 l.length), (17, V.int .i64 i), (28, u), (42, v)] [] (if acc = [] then [] else [(κ, ⟨acc.length, 9, 1⟩)]) gl ro
theorem ap_round (l : List Ac) (h8 : l.length ≤ 8) (hE : ∀ a ∈ l, actE a = 0) (hok : ∀ a ∈ l, a.Ok) : Evt fun k => ∀ N gl ro i a acc κ u v, l[i]? = some a → acc.length = i → (acc ≠ [] → κ = 28 ∨ κ = 42) → V.hav [5, 15, 16, 17, 28, 42] u = u → V.hav [5, 15, 16, 17, 28, 42] v = v →
    ∃ κ' u' v', (κ' = 28 ∨ κ' = 42) ∧ V.hav [5, 15, 16, 17, 28, 42] u' = u' ∧ V.hav [5, 15, 16, 17, 28, 42] v' = v' ∧
      (evC Tryz.prog cf 24 (ev k) N (bodyOf Tryz.f24 0) (apS l κ acc i u v gl ro)).map (hv [5, 15, 16, 17, 28, 42]) = some (.normal, apS l κ' (acc ++ [actT a]) (i + 1) u' v' gl ro) := by
  have hp : Evt fun k => ∀ a ∈ l, ∀ ro gl, ev k 75 [L (a.expr.map Tm.c)] ro gl = some (.tup [T (if checkV a.expr = 0 then txtV a.expr else []), I (checkV a.expr)], gl) := Evt.all l fun a ha => EPut_ev a.expr (hok a ha).names (hok a ha).len
  refine hp.imp fun k hp N gl ro i a acc κ u v hi hacc hκ qu qv => ?_
  have ha := List.mem_of_getElem? hi
  have hlt : i < l.length := (List.getElem?_eq_some_iff.1 hi).1
  have hlt' : (i : Int) < l.length := by omega
  have hx : l[i] = a := (List.getElem?_eq_some_iff.1 hi).2
  have hp := hp a ha
  obtain ⟨p1, p2, p3⟩ := actE_parts (hE a ha)
  have hn := isName_12 p1
  have w : IntKind.i64.wrap ((i : Int) + 1) = (i : Int) + 1 := i64w _ (by omega)
  clear hE hok ha
  obtain ⟨nm, an, ex⟩ := a
  simp only at p1 p2 p3 hn hp
  have b1 : 4 + nm.length ≤ 9223372036854775807 := by omega
  have b2 : nm.length + 4 ≤ 9223372036854775807 := by omega
  have b2' : nm.length ≤ 9223372036854775803 := by omega
  cases an with
  | true =>
    rcases acc with _ | ⟨y, q⟩
    · refine ⟨28, .c (.w (.app 28 [[.str (97 :: 110 :: 121 :: 32 :: nm)]])), v, .inl rfl, by simp, qv, ?_⟩
      have hi0 : i = 0 := by simpa using hacc.symm
      subst hi0
      simp -implicitDefEqProofs [-V.hav, hav_c, hav_tup, apS, bodyOf, loopsOf, hv, Tryz.f24, hlt, hlt', hx, Ac.c, w, actT, b1, qu, qv]
    · have hi1 : i = q.length + 1 := by simpa using hacc.symm
      have g1 : (q.length + 1 + 1) * 16 ≤ 140737488355328 := by omega
      have g2 : q.length ≤ 9223372036854775805 := by omega
      rcases hκ (by simp) with rfl | rfl
      · refine ⟨28, .c (.w (.app 28 (((y :: q) ++ [97 :: 110 :: 121 :: 32 :: nm]).map sD))), v, .inl rfl, by simp, qv, ?_⟩
        simp -implicitDefEqProofs [-V.hav, hav_c, hav_tup, apS, bodyOf, loopsOf, hv, Tryz.f24, hlt, hlt', hx, Ac.c, w, actT, b1, qu, qv, g1, g2]
      · refine ⟨42, .c (.w (.app 42 (((y :: q) ++ [97 :: 110 :: 121 :: 32 :: nm]).map sD))), v, .inr rfl, by simp, qv, ?_⟩
        simp -implicitDefEqProofs [-V.hav, hav_c, hav_tup, apS, bodyOf, loopsOf, hv, Tryz.f24, hlt, hlt', hx, Ac.c, w, actT, b1, qu, qv, g1, g2]
  | false =>
    have p3 := p3 rfl
    have hxl := txtV_len p3
    rw [p3, if_pos rfl] at hp
    have hat : actT ⟨nm, false, ex⟩ = nm ++ 32 :: 58 :: 61 :: 32 :: txtV ex := by simp [actT]
    rw [hat]
    generalize txtV ex = x at hp hxl ⊢
    have b3 : nm.length + 4 + x.length ≤ 9223372036854775807 := by omega
    have b3' : nm.length + (x.length + 1 + 1 + 1 + 1) ≤ 9223372036854775807 := by omega
    rcases acc with _ | ⟨y, q⟩
    · refine ⟨42, u, .c (.w (.app 42 [[.str (nm ++ 32 :: 58 :: 61 :: 32 :: x)]])), .inr rfl, qu, by simp, ?_⟩
      have hi0 : i = 0 := by simpa using hacc.symm
      subst hi0
      simp -implicitDefEqProofs [-V.hav, hav_c, hav_tup, apS, bodyOf, loopsOf, hv, Tryz.f24, hlt, hlt', hx, Ac.c, w, hp, b2, b2', b3, b3', qu, qv]
    · have hi1 : i = q.length + 1 := by simpa using hacc.symm
      have g1 : (q.length + 1 + 1) * 16 ≤ 140737488355328 := by omega
      have g2 : q.length ≤ 9223372036854775805 := by omega
      rcases hκ (by simp) with rfl | rfl
      · refine ⟨28, u, .c (.w (.app 28 (((y :: q) ++ [nm ++ 32 :: 58 :: 61 :: 32 :: x]).map sD))), .inl rfl, qu, by simp, ?_⟩
        simp -implicitDefEqProofs [-V.hav, hav_c, hav_tup, apS, bodyOf, loopsOf, hv, Tryz.f24, hlt, hlt', hx, Ac.c, w, hp, b2, b2', b3, b3', qu, qv, g1, g2]
      · refine ⟨42, u, .c (.w (.app 42 (((y :: q) ++ [nm ++ 32 :: 58 :: 61 :: 32 :: x]).map sD))), .inr rfl, qu, by simp, ?_⟩
        simp -implicitDefEqProofs [-V.hav, hav_c, hav_tup, apS, bodyOf, loopsOf, hv, Tryz.f24, hlt, hlt', hx, Ac.c, w, hp, b2, b2', b3, b3', qu, qv, g1, g2]
theorem ap_loop (l : List Ac) (h8 : l.length ≤ 8) (hE : ∀ a ∈ l, actE a = 0) (hok : ∀ a ∈ l, a.Ok) : Evt fun k => ∀ (m i : Nat), i + m = l.length → ∀ κ u v n gl ro S, (i ≠ 0 → κ = 28 ∨ κ = 42) → V.hav [5, 15, 16, 17, 28, 42] u = u → V.hav [5, 15, 16, 17, 28, 42] v = v → m < n → S.hav [5, 15, 16, 17, 28, 42] = apS l κ ((l.take i).map actT) i u v gl ro →
    ∃ κ' u' v', loopA (evC Tryz.prog cf 24 (ev k) k (bodyOf Tryz.f24 0)) [5, 15, 16, 17, 28, 42] [] n S = some (.exit 0, apS l κ' (l.map actT) l.length u' v' gl ro) := by
  refine (ap_round l h8 hE hok).imp fun k hr m => ?_
  induction m with
  | zero =>
    intro i hi κ u v n gl ro S hκ qu qv hn hS
    have hil : i = l.length := by omega
    subst hil
    obtain ⟨n, rfl⟩ : ∃ m, n = m + 1 := ⟨n - 1, by omega⟩
    rw [List.take_of_length_le (Nat.le_refl _)] at hS
    refine ⟨κ, u, v, loop_exit ?_⟩
    rw [hS]
    rcases hl : l.map actT with _ | ⟨y, q⟩
    · simp -implicitDefEqProofs [-V.hav, hav_c, hav_tup, apS, bodyOf, loopsOf, hv, Tryz.f24, qu, qv]
    · have hne : l.length ≠ 0 := by
        intro h
        have := congrArg List.length hl
        simp at this
        omega
      rcases hκ hne with rfl | rfl
      · simp -implicitDefEqProofs [-V.hav, hav_c, hav_tup, apS, bodyOf, loopsOf, hv, Tryz.f24, qu, qv]
      · simp -implicitDefEqProofs [-V.hav, hav_c, hav_tup, apS, bodyOf, loopsOf, hv, Tryz.f24, qu, qv]
  | succ m ih =>
    intro i hi κ u v n gl ro S hκ qu qv hn hS
    obtain ⟨n, rfl⟩ : ∃ m, n = m + 1 := ⟨n - 1, by omega⟩
    have hlt : i < l.length := by omega
    obtain ⟨κ', u', v', k1, k2, k3, r1⟩ := hr k gl ro i l[i] ((l.take i).map actT) κ u v (List.getElem?_eq_getElem hlt) (by simp; omega) (fun h => hκ (by rintro rfl; simp at h)) qu qv
    rw [← hS] at r1
    obtain ⟨S', hS', e⟩ := loop_on r1
    have ht : (l.take i).map actT ++ [actT l[i]] = (l.take (i + 1)).map actT := by rw [List.take_add_one, List.getElem?_eq_getElem hlt, List.map_append]; rfl
    rw [ht] at hS'
    obtain ⟨κ2, u2, v2, r2⟩ := ih (i + 1) (by omega) κ' u' v' n gl ro S' (fun _ => k1) k2 k3 (by omega) hS'
    exact ⟨κ2, u2, v2, by rw [e, r2]⟩
theorem map_sD (l : List Ac) : (l.map actT).map sD = l.map fun a => sD (actT a) := by simp
theorem APut_ev (l : List Ac) (hl : l.length ≤ 9223372036854775807) (hok : ∀ a ∈ l, a.Ok) : Gives 24 [L (l.map Ac.c)] (.tup [T (if checkA l = 0 then putA l else []), I (checkA l)]) := by
  have hc := ACheck_ev l hl hok
  by_cases h0 : checkA l = 0
  · rw [if_pos h0]
    obtain ⟨h8, hE⟩ := checkA_all h0
    have hpl := putA_len l hE
    have hj := Join_ev (l.map actT) [44, 32] (by simp; omega) (by rw [putA_join]; omega)
    rw [putA_join] at hj
    refine .intro Tryz.func24 (by kernel_rfl) ((hc.and (hj.and ((ap_loop l h8 hE hok).and (Evt.ge 10)))).imp fun k ⟨h1, h2, h3, hk⟩ ro gl => ?_)
    rw [h0] at h1 ⊢
    have tail : ∀ S : St, S.hav [5, 15, 16, 17, 28, 42] = apS l 28 [] 0 V.un V.un gl gl.length → ∃ i : Nat × V × V, True ∧ loopC Tryz.prog cf 24 (ev k) k (bodyOf Tryz.f24 0) S = some (.exit 0, apS l i.1 (l.map actT) l.length i.2.1 i.2.2 gl gl.length) :=
      fun S hS => by
        obtain ⟨κ', u', v', e⟩ := h3 l.length 0 (by omega) 28 V.un V.un k gl gl.length S (fun h => absurd rfl h) (by simp) (by simp) (by omega) (by simpa using hS)
        exact ⟨(κ', u', v'), trivial, e⟩
    simp -implicitDefEqProofs [Tryz.f24, h1]
    refine bind_ex (ι := Nat × V × V) (p := fun _ => True) (v := fun i => (.exit 0, apS l i.1 (l.map actT) l.length i.2.1 i.2.2 gl gl.length)) (tail _ ?_) ?_
    · simp [apS]
    · rintro ⟨κ', u', v'⟩ _
      rcases hm : l.map actT with _ | ⟨y, q⟩
      · rw [hm] at h2
        simp at h2
        simp -implicitDefEqProofs [apS, h2]
      · rw [hm] at h2
        simp at h2
        simp -implicitDefEqProofs [apS, h2]
  · rw [if_neg h0]
    refine .intro Tryz.func24 (by kernel_rfl) (hc.imp fun k h1 ro gl => ?_)
    generalize checkA l = e at h0 h1
    simp -implicitDefEqProofs [Tryz.f24, h1, h0]
end Go.Proofs.YtckonoejmjblfaaGreatDoor.Ev
