/- Layer 8: the place of an act's variable; what an act gives. -/
import Derived.Test.YtckonoejmjblfaaGreatDoorPkActA
import Derived.Test.YtckonoejmjblfaaGreatDoorPkAtA
import Derived.Test.YtckonoejmjblfaaGreatDoorPkRunA
set_option linter.unusedVariables false
set_option linter.unusedSimpArgs false
set_option maxRecDepth 100000
set_option maxHeartbeats 4000000
namespace Go.Proofs.YtckonoejmjblfaaGreatDoor.Ev
open Go Go.RowKit

abbrev Ac.cells (a : Ac) : List W := [.d (.str a.name), .d (.bool a.any), .d (.sl (a.expr.map Tm.c))]
theorem aim1_ev (a : Ac) (vs : List Vr) : FnO Vr.w 180 a.cells (fun v => decide (v.name = a.name)) vs := by
  refine .intro Tryz.func180 (by kernel_rfl) (Evt.of fun k v _ ro gl o ho => ?_)
  simp -implicitDefEqProofs [Tryz.f180, Vr.w, Vr.c, ho]
theorem span_u {lo hi : Int} (h1 : -9223372036854775808 ≤ lo ∧ lo ≤ 9223372036854775807) (h2 : -9223372036854775808 ≤ hi ∧ hi ≤ 9223372036854775807) (h : lo ≤ hi) : IntKind.u64.wrap (IntKind.u64.wrap hi - IntKind.u64.wrap lo) = hi - lo := by
  simp only [IntKind.wrap, IntKind.signed, IntKind.bits, Bool.false_and, Bool.false_eq_true, if_false]
  omega
theorem aim_ev (a : Ac) (en : En) (hok : a.Ok) (hl : a.expr.length < 1000000) (hv : en.vars.length < 1000000) (hr : ∀ v ∈ en.vars, v.Ok) : Gives 126 [a.w, en.w] (.tup [I (aimV a en.vars).1, I (aimV a en.vars).2]) := by
  have h := IndexVr_ev 180 (by kernel_rfl) (by kernel_rfl) a.cells (fun v => decide (v.name = a.name)) en.vars hv (aim1_ev a en.vars)
  have hC := evCheck_ev a.expr en hok.names hl hv
  have hT := Type_ev a.expr hl
  refine .intro Tryz.func126 (by kernel_rfl) ((h.and (hC.and hT)).imp fun k ⟨h, h5, h6⟩ ro gl => ?_)
  clear hC hT
  have h1 := fun ro => h ro (gl ++ [a.cells]) gl.length (get_last _ _)
  have hpl : placeV en.vars a.name = ixV (en.vars.findIdx? fun v => decide (v.name = a.name)) := rfl
  have hlt : 0 ≤ placeV en.vars a.name → (placeV en.vars a.name).toNat < en.vars.length := fun h => (placeV_lt4 h).1
  rw [← hpl] at h1
  clear h hpl
  unfold aimV
  generalize placeV en.vars a.name = p at h1 hlt ⊢
  obtain ⟨nm, an, ex⟩ := a
  simp only [Ac.cells] at h1 h5 h6 ⊢
  simp [En.w, En.ws] at h5
  by_cases c0 : p < 0
  · rw [if_pos c0]
    simp -implicitDefEqProofs [Tryz.f126, Ac.w, En.w, En.ws, h1, c0]
  rw [if_neg c0]
  obtain ⟨j, rfl⟩ : ∃ j : Nat, p = j := ⟨p.toNat, by omega⟩
  have hj : j < en.vars.length := by have := hlt (by omega); simpa using this
  have hj' : (j : Int) < en.vars.length := by omega
  have ca : en.vars[j]? = some en.vars[j] := List.getElem?_eq_getElem hj
  have hrv := hr en.vars[j] (List.getElem_mem hj)
  rw [Int.toNat_natCast, ca]
  generalize hxx : en.vars[j] = v at ca hrv
  simp only
  cases an with
  | true =>
    rw [if_pos rfl]
    by_cases c1 : v.hi < v.lo
    · rw [if_pos (.inl c1)]
      simp -implicitDefEqProofs [Tryz.f126, Ac.w, En.w, En.ws, h1, c0, hj, hj', hxx, Vr.c, c1]
    · have hu := span_u hrv.1 hrv.2 (by omega)
      by_cases c2 : 63 < v.hi - v.lo
      · rw [if_pos (.inr c2)]
        have c2' : 64 ≤ v.hi - v.lo := by omega
        simp -implicitDefEqProofs [Tryz.f126, Ac.w, En.w, En.ws, h1, c0, hj, hj', hxx, Vr.c, c1, hu, c2']
      · rw [if_neg (by omega)]
        have c2' : ¬ 64 ≤ v.hi - v.lo := by omega
        simp -implicitDefEqProofs [Tryz.f126, Ac.w, En.w, En.ws, h1, c0, hj, hj', hxx, Vr.c, c1, hu, c2']
  | false =>
    rw [if_neg (by decide)]
    generalize evalE ex en.vars = e at h5 ⊢
    generalize tyV ex = y at h6 ⊢
    by_cases c1 : e = 0
    · rw [if_neg (by simp [c1])]
      subst c1
      by_cases c2 : y = 1
      · rw [if_neg (by simp [c2])]
        subst c2
        simp -implicitDefEqProofs [Tryz.f126, Ac.w, En.w, En.ws, h1, c0, h5, h6]
      · rw [if_pos c2]
        simp -implicitDefEqProofs [Tryz.f126, Ac.w, En.w, En.ws, h1, c0, h5, h6, c2]
    · rw [if_pos c1]
      simp -implicitDefEqProofs [Tryz.f126, Ac.w, En.w, En.ws, h1, c0, h5, c1]
theorem Q4.set_set (q : Q4) (i x y : Int) : (q.set i x).set i y = q.set i y := by
  unfold Q4.set
  repeat' split
  all_goals rfl
/-- The loop over a variable's range. -/
def gvS (j : Nat) (v : Vr) (en : En) (q : Q4) (n : Nat) (acc : List Q4) (i : Nat) (gl : List (List W)) (ro : Nat) : St :=
  st 62 [(1, V.int .i64 j), (5, .c (.w (.box 5 0))), (7, .c (.w (.box 7 0))), (10, if acc = [] then .c (.w (.full [])) else .c (.w (.app 59 (acc.map Q4.r)))), (44, V.int .i64 n), (45, V.int .i64 i), (59, if acc = [] then V.un else .c (.w (.app 59 (acc.map Q4.r))))]
    [(5, (en.at q).ws), (7, [.d (.str v.name), .d (.int .i64 v.lo), .d (.int .i64 v.hi), .d (.int .i64 v.init)])] (if acc = [] then [] else [(59, ⟨acc.length, 108, 4⟩)]) gl ro
theorem gv_round (call : Caller) (N : Nat) (j : Nat) (hj : j < 4) (v : Vr) (en : En) (q : Q4) (n : Nat) (hn : n ≤ 64) (acc : List Q4) (i : Nat) (hi : i < n) (ha : acc.length ≤ 64) (hw : -9223372036854775808 ≤ v.lo ∧ v.lo + i ≤ 9223372036854775807) (gl : List (List W)) (ro : Nat) :
    ((evC Tryz.prog cf 127 call N (bodyOf Tryz.f127 0)) (gvS j v en q n acc i gl ro)).map (hv [1, 5, 7, 10, 44, 45, 59]) = some (.normal, gvS j v en (q.set j (v.lo + i)) n (acc ++ [q.set j (v.lo + i)]) (i + 1) gl ro) := by
  have h1 : (i : Int) < n := by omega
  have w : IntKind.i64.wrap ((i : Int) + 1) = (i : Int) + 1 := i64w _ (by omega)
  have w2 : IntKind.i64.wrap (v.lo + i) = v.lo + i := i64w _ (by omega)
  have g1 : acc.length + 1 ≤ 9223372036854775807 := by omega
  have g2 : (acc.length + 1) * 32 ≤ 140737488355328 := by omega
  have g3 : acc.length ≤ 9223372036854775806 := by omega
  have hall : ∀ q : Q4, q.r.length = 4 := fun _ => rfl
  have hj : j = 0 ∨ j = 1 ∨ j = 2 ∨ j = 3 := by omega
  by_cases h0 : acc = []
  · subst h0
    rcases hj with rfl | rfl | rfl | rfl
    all_goals simp -implicitDefEqProofs [gvS, En.ws, En.at, bodyOf, loopsOf, hv, Tryz.f127, h1, w, w2, Q4.set, Q4.r]
  · rcases hj with rfl | rfl | rfl | rfl
    all_goals simp -implicitDefEqProofs [gvS, En.ws, En.at, bodyOf, loopsOf, hv, Tryz.f127, h1, w, w2, Q4.set, h0, g1, g2, g3, hall, Q4.r]
theorem gv_exit (call : Caller) (N : Nat) (j : Nat) (v : Vr) (en : En) (q : Q4) (n : Nat) (acc : List Q4) (gl : List (List W)) (ro : Nat) :
    ((evC Tryz.prog cf 127 call N (bodyOf Tryz.f127 0)) (gvS j v en q n acc n gl ro)).map (hv [1, 5, 7, 10, 44, 45, 59]) = some (.exit 0, gvS j v en q n acc n gl ro) := by
  by_cases h0 : acc = []
  · subst h0
    simp -implicitDefEqProofs [gvS, En.ws, En.at, bodyOf, loopsOf, hv, Tryz.f127]
  · simp -implicitDefEqProofs [gvS, En.ws, En.at, bodyOf, loopsOf, hv, Tryz.f127, h0]
def gvQ (j : Nat) (v : Vr) (en : En) (i : Nat) : Q4 := if i = 0 then en.vals else en.vals.set j (v.lo + ((i - 1 : Nat) : Int))
def gvA (j : Nat) (v : Vr) (en : En) (i : Nat) : List Q4 := (List.range i).map fun (k : Nat) => en.vals.set j (v.lo + k)
theorem gv_loop (call : Caller) (N : Nat) (j : Nat) (hj : j < 4) (v : Vr) (en : En) (n : Nat) (hn : n ≤ 64) (hw : -9223372036854775808 ≤ v.lo ∧ v.lo + n ≤ 9223372036854775808) (gl : List (List W)) (ro : Nat) (k : Nat) (hk : n < k) (S : St) (hS : S.hav [1, 5, 7, 10, 44, 45, 59] = gvS j v en en.vals n [] 0 gl ro) :
    loopA (evC Tryz.prog cf 127 call N (bodyOf Tryz.f127 0)) [1, 5, 7, 10, 44, 45, 59] [] k S = some (.exit 0, gvS j v en (gvQ j v en n) n (gvA j v en n) n gl ro) := by
  refine loop_by (keep := [1, 5, 7, 10, 44, 45, 59]) (res := []) (fun i : Nat => gvS j v en (gvQ j v en i) n (gvA j v en i) i gl ro) (fun i => i ≤ n) (fun i => n - i) (fun i => (.exit 0, gvS j v en (gvQ j v en n) n (gvA j v en n) n gl ro)) ?_ k 0 S (Nat.zero_le _) (by omega) hS
  intro i hi
  by_cases hi' : i = n
  · subst hi'
    exact .inr (.inl ⟨0, _, gv_exit call N j v en _ i _ gl ro, rfl⟩)
  · refine .inl ⟨i + 1, by omega, by omega, ?_, rfl⟩
    have hq : (gvQ j v en i).set j (v.lo + i) = gvQ j v en (i + 1) := by
      unfold gvQ
      rw [if_neg (by omega : ¬ i + 1 = 0), Nat.add_sub_cancel]
      split
      · rfl
      · rw [Q4.set_set]
    have ha : gvA j v en i ++ [(gvQ j v en i).set j (v.lo + i)] = gvA j v en (i + 1) := by
      rw [hq]
      unfold gvA gvQ
      rw [List.range_succ, List.map_append, if_neg (by omega : ¬ i + 1 = 0), Nat.add_sub_cancel]
      rfl
    have := gv_round call N j hj v en (gvQ j v en i) n hn (gvA j v en i) i (by omega) (by simp [gvA]; omega) (by omega) gl ro
    rw [ha, hq] at this
    exact this
theorem give_ev (a : Ac) (en : En) (j : Nat) (hj4 : j < 4) (v : Vr) (hvr : en.vars[j]? = some v) (hok : a.Ok) (hl : a.expr.length < 1000000) (hlv : en.vars.length < 1000000) (hi : en.ins.length < 1000000) (hr : v.Ok)
    (h : (a.any = true ∧ v.lo ≤ v.hi ∧ v.hi - v.lo ≤ 63) ∨ (a.any = false ∧ evalE a.expr en.vars = 0)) : Gives 127 [a.w, I j, en.w] (.c (L ((giveV a j en).map Q4.r))) := by
  have hlt : j < en.vars.length := (List.getElem?_eq_some_iff.1 hvr).1
  have hlt' : (j : Int) < en.vars.length := by omega
  have hx : en.vars[j] = v := (List.getElem?_eq_some_iff.1 hvr).2
  unfold giveV
  simp only [Int.toNat_natCast, hvr]
  rcases h with ⟨ha, h1, h2⟩ | ⟨ha, h1⟩
  · rw [if_pos ha]
    obtain ⟨n, hn⟩ : ∃ n : Nat, (v.hi - v.lo + 1).toNat = n := ⟨_, rfl⟩
    rw [hn]
    have hnv : v.hi - v.lo + 1 = n := by omega
    refine .intro Tryz.func127 (by kernel_rfl) ((Evt.ge 70).imp fun k hk ro gl => ?_)
    have tail : ∀ S : St, S.hav [1, 5, 7, 10, 44, 45, 59] = gvS j v en en.vals n [] 0 gl gl.length → loopC Tryz.prog cf 127 (ev k) k (bodyOf Tryz.f127 0) S = _ := fun S hS => gv_loop (ev k) k j hj4 v en n (by omega) ⟨by have := hr.1; omega, by have := hr.2; omega⟩ gl gl.length k (by omega) S hS
    have w1 : IntKind.i64.wrap (v.hi - v.lo) = v.hi - v.lo := i64w _ (by omega)
    have w2 : IntKind.i64.wrap (v.hi - v.lo + 1) = n := by rw [i64w _ (by omega), hnv]
    have hne : ¬ gvA j v en n = [] := by
      intro h
      have := congrArg List.length h
      simp [gvA] at this
      omega
    show bodyA _ _ _ _ _ _ _ _ _ = some (.c (L ((gvA j v en n).map Q4.r)), gl)
    generalize gvA j v en n = acc at tail hne ⊢
    generalize gvQ j v en n = q at tail
    obtain ⟨nm, an, ex⟩ := a
    simp only at ha
    subst ha
    clear hk
    simp -implicitDefEqProofs [Tryz.f127, Ac.w, En.w, En.ws, hlt, hlt', hx, Vr.c, w1, w2]
    refine bind_go (tail _ ?_) ?_
    · simp [gvS, En.ws, En.at]
    · simp -implicitDefEqProofs [gvS, hne]
  · rw [if_neg (by simp [ha])]
    have hA := At_ev en hi a.expr hok.names hl hlv
    rw [if_pos h1, h1] at hA
    have hc := Clamp_ev (valV a.expr en) v.lo v.hi
    refine .intro Tryz.func127 (by kernel_rfl) ((hA.and hc).imp fun k ⟨g1, g2⟩ ro gl => ?_)
    clear hA hc
    generalize clamp (valV a.expr en) v.lo v.hi = x at g2 ⊢
    generalize valV a.expr en = y at g1 g2
    obtain ⟨nm, an, ex⟩ := a
    simp only at ha g1
    subst ha
    simp [En.w, En.ws] at g1
    have hj : j = 0 ∨ j = 1 ∨ j = 2 ∨ j = 3 := by omega
    rcases hj with rfl | rfl | rfl | rfl
    · have hq : (0 : Int) < en.vars.length := by omega
      simp -implicitDefEqProofs [Tryz.f127, Ac.w, En.w, En.ws, hlt, hq, hx, Vr.c, g1, g2, Q4.set, Q4.r]
    · have hq : (1 : Int) < en.vars.length := by omega
      simp -implicitDefEqProofs [Tryz.f127, Ac.w, En.w, En.ws, hlt, hq, hx, Vr.c, g1, g2, Q4.set, Q4.r]
    · have hq : (2 : Int) < en.vars.length := by omega
      simp -implicitDefEqProofs [Tryz.f127, Ac.w, En.w, En.ws, hlt, hq, hx, Vr.c, g1, g2, Q4.set, Q4.r]
    · have hq : (3 : Int) < en.vars.length := by omega
      simp -implicitDefEqProofs [Tryz.f127, Ac.w, En.w, En.ws, hlt, hq, hx, Vr.c, g1, g2, Q4.set, Q4.r]
end Go.Proofs.YtckonoejmjblfaaGreatDoor.Ev
