/- Layer 8: which acts are next in any tokens, the document's. -/
import Derived.Test.YtckonoejmjblfaaGreatPkTrn8
set_option linter.unusedVariables false
set_option linter.unusedSimpArgs false
set_option maxRecDepth 100000
set_option maxHeartbeats 4000000
namespace Go.Proofs.YtckonoejmjblfaaGreat.Ev
open Go Go.RowKit

/-- The loop's head: the cursor, what was read, is there more? -/
def rrdS (c : Cu) (acc : List Ac) (more : Bool) (gl : List (List W)) (ro : Nat) : St :=
  st 59 [(1, .c (.w (.box 1 0))), (2, .c (.w (.box 2 0))), (4, if acc = [] then .c (.w (.full [])) else .c (.w (.app 47 (acc.map Ac.c)))), (5, V.bool more), (47, if acc = [] then V.un else .c (.w (.app 47 (acc.map Ac.c))))]
    [(1, c.cells), (2, zeroCu)] (if acc = [] then [] else [(47, ⟨acc.length, 45, 3⟩)]) gl ro
abbrev rrdK : List Nat := [1, 2, 4, 5, 47]
def preA (c : Cu) (n : Nat) : Cu := if n = 8 then c.fail 8 else c
theorem preA_ok {c : Cu} (hk : c.Ok) (n : Nat) : (preA c n).Ok ∧ (preA c n).r = c.r := by
  unfold preA
  split
  · exact ⟨hk.fail _, Cu.fail_r _ _⟩
  · exact ⟨hk, rfl⟩
theorem rrd_out (call : Caller) (N : Nat) (c : Cu) (acc : List Ac) (gl : List (List W)) (ro n : Nat) (S : St) (hS : S.hav rrdK = rrdS c acc false gl ro) :
    loopA (evC Tryz.prog cf 7 call N (bodyOf Tryz.f7 0)) rrdK [] (n + 1) S = some (.exit 0, rrdS c acc false gl ro) := by
  refine loop_exit ?_
  rw [hS]
  by_cases h : acc = []
  · simp -implicitDefEqProofs [rrdS, Cu.cells, bodyOf, loopsOf, hv, Tryz.f7, h]
  · simp -implicitDefEqProofs [rrdS, Cu.cells, bodyOf, loopsOf, hv, Tryz.f7, h]
/-- A round, behind the look at how many there are. -/
theorem rrd_round {c : Cu} (hk : c.Ok) (hn : c.r.length < 90000) (acc : List Ac) (hl : acc.length ≤ 90000) : Evt fun k => ∀ N gl ro,
    (evC Tryz.prog cf 7 (ev k) N (bodyOf Tryz.f7 0) (rrdS c acc true gl ro)).map (hv rrdK) = some (.normal, rrdS ((oneP (preA c acc.length)).1.take 3 [44]) (acc ++ [(oneP (preA c acc.length)).2]) ((oneP (preA c acc.length)).1.is 3 [44]) gl ro) := by
  obtain ⟨n1, n2⟩ := preA_ok hk acc.length
  have hf := rFail_c (c := c) 8
  have hpre : preA c acc.length = if acc.length = 8 then c.fail 8 else c := rfl
  generalize preA c acc.length = c1 at n1 n2 hpre ⊢
  have ht := rTake_c n1 1 bAny
  have ok := (oneP_ok n1).1
  have hlast := rTake_c ok 3 [44]
  have g1 : (acc.length + 1) * 48 ≤ 140737488355328 := by omega
  have g2 : acc.length ≤ 9223372036854775806 := by omega
  have g3 : acc.length + 1 ≤ 9223372036854775807 := by omega
  unfold oneP at ok hlast ⊢
  unfold Cu.take at ht
  by_cases h : c1.is 1 bAny = true
  · rw [if_pos h] at ok hlast ⊢
    rw [if_pos h, h] at ht
    have hnm := rName_c n1.on
    simp only at ok hlast ⊢
    generalize c1.on.name = x at hnm ok hlast ⊢
    generalize c1.on = c2 at ht hnm
    obtain ⟨d, nm⟩ := x
    simp only at hnm ok hlast ⊢
    generalize d.take 3 [44] = d2 at hlast ⊢
    generalize d.is 3 [44] = more at hlast ⊢
    refine (hf.and (ht.and (hnm.and hlast))).imp fun k ⟨q0, q1, q2, q3⟩ N gl ro => ?_
    by_cases h8 : acc.length = 8
    · rw [if_pos h8] at hpre
      rw [← hpre] at q0
      have ha0 : ¬ acc = [] := by rintro rfl; simp at h8
      simp [Cu.ref, cR] at q0 q1 q2 q3
      simp -implicitDefEqProofs [rrdS, Cu.cells, bodyOf, loopsOf, hv, Tryz.f7, q0, q1, q2, q3, h8, ha0, Ac.c, Ac.w]
    · rw [if_neg h8] at hpre
      subst hpre
      have h8' : ¬ (acc.length : Int) = 8 := by omega
      simp [Cu.ref, cR] at q1 q2 q3
      by_cases ha0 : acc = []
      · subst ha0
        simp -implicitDefEqProofs [rrdS, Cu.cells, bodyOf, loopsOf, hv, Tryz.f7, q1, q2, q3, Ac.c, Ac.w]
      · simp -implicitDefEqProofs [rrdS, Cu.cells, bodyOf, loopsOf, hv, Tryz.f7, q1, q2, q3, h8, h8', ha0, g1, g2, g3, Ac.c, Ac.w]
  · rw [if_neg h] at ok hlast ⊢
    have h' : c1.is 1 bAny = false := by simpa using h
    rw [if_neg h, h'] at ht
    have hnm := rName_c n1
    have hm := rMark_c (name_ok n1) bGets
    have hr := rRead_ev (want_ok (name_ok n1) 3 bGets) (Nat.lt_of_le_of_lt (Nat.le_trans (Cu.want_le _ _ _).2 (Cu.name_le _).2) (by rw [n2]; omega))
    simp only [resR] at ok hlast hr ⊢
    generalize readP (c1.name.1.want 3 bGets) = y at ok hlast hr ⊢
    generalize c1.name.1.want 3 bGets = c3 at hm hr
    generalize c1.name = x at hnm hm hlast ⊢
    obtain ⟨d, nm⟩ := x
    obtain ⟨d4, ex⟩ := y
    simp only at ok hnm hm hr hlast ⊢
    generalize d4.take 3 [44] = d2 at hlast ⊢
    generalize d4.is 3 [44] = more at hlast ⊢
    refine (hf.and (ht.and (hnm.and (hm.and (hr.and hlast))))).imp fun k ⟨q0, q1, q2, q4, q5, q3⟩ N gl ro => ?_
    by_cases h8 : acc.length = 8
    · rw [if_pos h8] at hpre
      rw [← hpre] at q0
      have ha0 : ¬ acc = [] := by rintro rfl; simp at h8
      simp [Cu.ref, cR] at q0 q1 q2 q3 q4 q5
      simp -implicitDefEqProofs [rrdS, Cu.cells, bodyOf, loopsOf, hv, Tryz.f7, q0, q1, q2, q3, q4, q5, h8, ha0, Ac.c, Ac.w]
    · rw [if_neg h8] at hpre
      subst hpre
      have h8' : ¬ (acc.length : Int) = 8 := by omega
      simp [Cu.ref, cR] at q1 q2 q3 q4 q5
      by_cases ha0 : acc = []
      · subst ha0
        simp -implicitDefEqProofs [rrdS, Cu.cells, bodyOf, loopsOf, hv, Tryz.f7, q1, q2, q3, q4, q5, Ac.c, Ac.w]
      · simp -implicitDefEqProofs [rrdS, Cu.cells, bodyOf, loopsOf, hv, Tryz.f7, q1, q2, q3, q4, q5, h8, h8', ha0, g1, g2, g3, Ac.c, Ac.w]
theorem actsP_step (f : Nat) (c : Cu) (acc : List Ac) (h : c.is 3 [44] = true) : actsP (f + 1) c acc = actsP f (oneP (preA c.on acc.length)).1 (acc ++ [(oneP (preA c.on acc.length)).2]) := by
  rw [actsP, if_pos h]
  rfl
theorem rrd_loop : ∀ (f : Nat) (c : Cu) (acc : List Ac), c.Ok → c.r.length ≤ f → acc.length + f ≤ 80000 → Evt fun k => ∀ n gl ro S, f + 2 ≤ n → S.hav rrdK = rrdS c acc true gl ro →
    loopA (evC Tryz.prog cf 7 (ev k) k (bodyOf Tryz.f7 0)) rrdK [] n S = some (.exit 0, rrdS (actsP (f + 1) (oneP (preA c acc.length)).1 (acc ++ [(oneP (preA c acc.length)).2])).1 (actsP (f + 1) (oneP (preA c acc.length)).1 (acc ++ [(oneP (preA c acc.length)).2])).2 false gl ro)
  | 0, c, acc, hk, hf, hl => by
    obtain ⟨n1, n2⟩ := preA_ok hk acc.length
    obtain ⟨o1, o2⟩ := oneP_ok n1
    have hfin : ¬ (oneP (preA c acc.length)).1.is 3 [44] = true := fun h => by
      have := (Cu.is_real h (by simp)).2
      rw [n2] at o2
      omega
    have hfin' : (oneP (preA c acc.length)).1.is 3 [44] = false := by simpa using hfin
    refine (rrd_round hk (by omega) acc (by omega)).imp fun k q1 n gl ro S hn hS => ?_
    obtain ⟨n, rfl⟩ : ∃ m, n = m + 2 := ⟨n - 2, by omega⟩
    have q1 := q1 k gl ro
    rw [← hS, hfin', take_eq, if_neg hfin] at q1
    obtain ⟨S', hS', e⟩ := loop_on q1
    rw [e, rrd_out (ev k) k _ _ gl ro n S' hS', actsP, if_neg hfin]
  | f + 1, c, acc, hk, hf, hl => by
    obtain ⟨n1, n2⟩ := preA_ok hk acc.length
    obtain ⟨o1, o2⟩ := oneP_ok n1
    rw [n2] at o2
    by_cases h : (oneP (preA c acc.length)).1.is 3 [44] = true
    · have hr := (Cu.is_real h (by simp)).2
      refine ((rrd_round hk (by omega) acc (by omega)).and (rrd_loop f (oneP (preA c acc.length)).1.on (acc ++ [(oneP (preA c acc.length)).2]) o1.on (by omega) (by simp; omega))).imp fun k ⟨q1, q2⟩ n gl ro S hn hS => ?_
      obtain ⟨n, rfl⟩ : ∃ m, n = m + 1 := ⟨n - 1, by omega⟩
      have q1 := q1 k gl ro
      rw [← hS, h, take_eq, if_pos h] at q1
      obtain ⟨S', hS', e⟩ := loop_on q1
      rw [e, q2 n gl ro S' (by omega) hS', actsP_step (f + 1) _ _ h]
    · have hfin' : (oneP (preA c acc.length)).1.is 3 [44] = false := by simpa using h
      refine (rrd_round hk (by omega) acc (by omega)).imp fun k q1 n gl ro S hn hS => ?_
      obtain ⟨n, rfl⟩ : ∃ m, n = m + 2 := ⟨n - 2, by omega⟩
      have q1 := q1 k gl ro
      rw [← hS, hfin', take_eq, if_neg h] at q1
      obtain ⟨S', hS', e⟩ := loop_on q1
      rw [e, rrd_out (ev k) k _ _ gl ro n S' hS', actsP, if_neg h]
theorem actsP_ne : ∀ (f : Nat) (c : Cu) (acc : List Ac), acc ≠ [] → (actsP f c acc).2 ≠ []
  | 0, c, acc, h => h
  | f + 1, c, acc, h => by
    unfold actsP
    split
    · exact actsP_ne f _ _ (by simp)
    · exact h
theorem rARead_ev {c : Cu} (hk : c.Ok) (hn : c.r.length < 50000) : Gives 7 [c.ref] (.tup [(readA c).1.ref, L ((readA c).2.map Ac.c)]) := by
  have h1 := rrd_loop c.r.length c [] hk (Nat.le_refl _) (by simp; omega)
  have hp : preA c ([] : List Ac).length = c := rfl
  rw [hp, List.nil_append] at h1
  have hne := actsP_ne (c.r.length + 1) (oneP c).1 [(oneP c).2] (by simp)
  unfold readA
  simp only
  generalize actsP (c.r.length + 1) (oneP c).1 [(oneP c).2] = x at h1 hne ⊢
  obtain ⟨d, l⟩ := x
  simp only at h1 hne ⊢
  refine .intro Tryz.func7 (by kernel_rfl) ((h1.and (Evt.ge (c.r.length + 2))).imp fun k ⟨h1, hkk⟩ ro gl => ?_)
  have tail : ∀ S : St, S.hav rrdK = rrdS c [] true gl gl.length → loopC Tryz.prog cf 7 (ev k) k (bodyOf Tryz.f7 0) S = some (.exit 0, rrdS d l false gl gl.length) := fun S hS => h1 k gl gl.length S hkk hS
  simp -implicitDefEqProofs [Tryz.f7, Cu.ref, cR]
  refine bind_go (tail _ ?_) ?_
  · simp [rrdS, Cu.cells]
  · by_cases he : d.e = 0
    · simp -implicitDefEqProofs [rrdS, Cu.cells, he, hne]
    · simp -implicitDefEqProofs [rrdS, Cu.cells, he, hne]
end Go.Proofs.YtckonoejmjblfaaGreat.Ev
