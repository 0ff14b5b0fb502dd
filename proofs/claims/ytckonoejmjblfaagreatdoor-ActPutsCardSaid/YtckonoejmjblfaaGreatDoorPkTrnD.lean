/- Layers 8 and 9: acts and transitions are read. -/
import Derived.Test.YtckonoejmjblfaaGreatDoorPkTrp
import Derived.Test.YtckonoejmjblfaaGreatDoorPkExpD
set_option linter.unusedVariables false
set_option linter.unusedSimpArgs false
set_option maxRecDepth 100000
set_option maxHeartbeats 2000000
namespace Go.Proofs.YtckonoejmjblfaaGreatDoor.Ev
open Go Go.RowKit

theorem take_eq {c : Cu} (kd : Int) (t : List UInt8) : c.take kd t = if c.is kd t then c.on else c := rfl
theorem readP_le {c : Cu} : (readP c).1.r.length ≤ c.r.length := by
  have := (lvN_fine (c.r.length + 1) 1 c).1.2
  unfold readP
  simp only
  split
  · split
    · rw [Cu.fail_r]; exact this
    · split
      · rw [Cu.fail_r]; exact this
      · exact this
  · exact this
theorem name_ok {c : Cu} (hk : c.Ok) : c.name.1.Ok := by
  unfold Cu.name
  split
  · exact hk.on
  · exact hk.fail _
theorem want_ok {c : Cu} (hk : c.Ok) (k : Int) (t : List UInt8) : (c.want k t).Ok := by
  unfold Cu.want
  split
  · exact hk.on
  · exact hk.fail _
theorem oneP_ok {c : Cu} (hk : c.Ok) : (oneP c).1.Ok ∧ (oneP c).1.r.length ≤ c.r.length := by
  unfold oneP
  split
  · exact ⟨name_ok hk.on, Nat.le_trans (Cu.name_le _).2 (Cu.on_le _).2⟩
  · exact ⟨readP_ok (want_ok (name_ok hk) _ _), Nat.le_trans readP_le (Nat.le_trans (Cu.want_le _ _ _).2 (Cu.name_le _).2)⟩
theorem aone_ev {c : Cu} (hk : c.Ok) (hn : c.r.length < 90000) : DoesU 82 (fun o => [.w (.glo o 0)]) c.w (.c (oneP c).2.w) (oneP c).1.w := by
  have ht := take_c hk 1 bAny
  unfold oneP
  by_cases h : c.is 1 bAny = true
  · rw [if_pos h]
    have h2 := name_c hk.on
    unfold Cu.take at ht
    rw [if_pos h, h] at ht
    generalize c.on.name = x at h2 ⊢
    generalize c.on = c1 at ht h2
    refine .intro Tryz.func82 (by kernel_rfl) ((ht.and h2).imp fun k ⟨h1, h2⟩ gl o ro hg hro => ?_)
    have h1 := h1 gl o ro hg hro
    have h2 := h2 _ o ro (get_set hg _) hro
    simp only [List.set_set] at h2
    simp -implicitDefEqProofs [Tryz.f82, h1, h2, Ac.w]
  · rw [if_neg h]
    have h' : c.is 1 bAny = false := by simpa using h
    have h2 := name_c hk
    have h3 := want_c (name_ok hk) 3 bGets
    have h4 := Read_ev (want_ok (name_ok hk) 3 bGets) (Nat.lt_of_le_of_lt (Nat.le_trans (Cu.want_le _ _ _).2 (Cu.name_le _).2) hn)
    unfold Cu.take at ht
    rw [if_neg h, h'] at ht
    generalize readP (c.name.1.want 3 bGets) = y at h4 ⊢
    generalize c.name.1.want 3 bGets = c2 at h3 h4
    generalize c.name = x at h2 h3 ⊢
    refine .intro Tryz.func82 (by kernel_rfl) ((ht.and (h2.and (h3.and h4))).imp fun k ⟨h1, h2, h3, h4⟩ gl o ro hg hro => ?_)
    have h1 := h1 gl o ro hg hro
    rw [set_same hg] at h1
    have h2 := h2 gl o ro hg hro
    have h3 := h3 _ o ro (get_set hg _) hro
    have h4 := h4 _ o ro (get_set hg _) hro
    simp only [List.set_set] at h3 h4
    simp -implicitDefEqProofs [Tryz.f82, h1, h2, h3, h4, Ac.w]
def raS (o : Nat) (acc : List Ac) (gl : List (List W)) (ro : Nat) : St :=
  st 23 [(0, .c (.w (.glo o 0))), (3, if acc.length = 1 then .c (.w (.full (acc.map Ac.c))) else .c (.w (.app 18 (acc.map Ac.c)))), (18, if acc.length = 1 then V.un else .c (.w (.app 18 (acc.map Ac.c))))]
    [] (if acc.length = 1 then [] else [(18, ⟨acc.length, 47, 3⟩)]) gl ro
def nextA (c : Cu) (n : Nat) : Cu := if n = 8 then c.on.fail 8 else c.on
theorem nextA_ok {c : Cu} (hk : c.Ok) (n : Nat) : (nextA c n).Ok ∧ (nextA c n).r = c.on.r := by
  unfold nextA
  split
  · exact ⟨hk.on.fail _, Cu.fail_r _ _⟩
  · exact ⟨hk.on, rfl⟩
/-- One more act. -/
theorem ra_round {c : Cu} (hk : c.Ok) (hn : c.r.length < 90000) (h : c.is 3 [44] = true) (acc : List Ac) (h1 : 1 ≤ acc.length) (hl : acc.length ≤ 90000) : Evt fun k => ∀ N gl o ro, gl[o]? = some c.w → ro ≤ o →
    (evC Tryz.prog cf 30 (ev k) N (bodyOf Tryz.f30 0) (raS o acc gl ro)).map (hv [0, 3, 18]) = some (.normal, raS o (acc ++ [(oneP (nextA c acc.length)).2]) (gl.set o (oneP (nextA c acc.length)).1.w) ro) := by
  have ht := take_c hk 3 [44]
  unfold Cu.take at ht
  rw [if_pos h, h] at ht
  obtain ⟨n1, n2⟩ := nextA_ok hk acc.length
  have hf := fail_c hk.on 8
  have ho := aone_ev n1 (by rw [n2, Cu.on_r]; simp; omega)
  have hone : nextA c acc.length = if acc.length = 8 then c.on.fail 8 else c.on := rfl
  generalize oneP (nextA c acc.length) = y at ho ⊢
  have g1 : (acc.length + 1) * 48 ≤ 140737488355328 := by omega
  have g2 : acc.length ≤ 9223372036854775806 := by omega
  obtain ⟨d, a⟩ := y
  obtain ⟨nm, an, ex⟩ := a
  simp only [Ac.w] at ho ⊢
  refine (ht.and (hf.and ho)).imp fun k ⟨q1, q2, q3⟩ N gl o ro hg hro => ?_
  have q1 := q1 gl o ro hg hro
  by_cases h8 : acc.length = 8
  · rw [hone, if_pos h8] at q3
    have q2 := q2 _ o ro (get_set hg _) hro
    have q3 := q3 _ o ro (get_set hg _) hro
    simp only [List.set_set] at q2 q3
    have h81 : ¬ acc.length = 1 := by omega
    have ha0 : ¬ acc = [] := by rintro rfl; simp at h8
    simp -implicitDefEqProofs [raS, bodyOf, loopsOf, hv, Tryz.f30, q1, q2, q3, h8, ha0, Ac.c, Ac.w]
  · rw [hone, if_neg h8] at q3
    have q3 := q3 _ o ro (get_set hg _) hro
    simp only [List.set_set] at q3
    have h8' : ¬ (acc.length : Int) = 8 := by omega
    by_cases h11 : acc.length = 1
    · simp -implicitDefEqProofs [raS, bodyOf, loopsOf, hv, Tryz.f30, q1, q3, h11, Ac.c, Ac.w]
    · have ha0 : ¬ acc = [] := by rintro rfl; simp at h1
      simp -implicitDefEqProofs [raS, bodyOf, loopsOf, hv, Tryz.f30, q1, q3, h8, h8', h11, ha0, g1, g2, Ac.c, Ac.w]
end Go.Proofs.YtckonoejmjblfaaGreatDoor.Ev

/- Layers 8 and 9: acts and transitions are read. -/
set_option linter.unusedVariables false
set_option linter.unusedSimpArgs false
set_option maxRecDepth 100000
set_option maxHeartbeats 4000000
namespace Go.Proofs.YtckonoejmjblfaaGreatDoor.Ev
open Go Go.RowKit

theorem ra_loop : ∀ (f : Nat) (c : Cu) (acc : List Ac), c.Ok → c.r.length < f → 1 ≤ acc.length → acc.length + f ≤ 80000 → Evt fun k => ∀ n gl o ro S, (gl : List (List W))[o]? = some c.w → ro ≤ o → f ≤ n → S.hav [0, 3, 18] = raS o acc gl ro →
    loopA (evC Tryz.prog cf 30 (ev k) k (bodyOf Tryz.f30 0)) [0, 3, 18] [] n S = some (.exit 0, raS o (actsP f c acc).2 (gl.set o (actsP f c acc).1.w) ro)
  | 0, c, acc, _, hf, _, _ => absurd hf (by omega)
  | f + 1, c, acc, hk, hf, h1, hl => by
    by_cases h : c.is 3 [44] = true
    · have hr := (Cu.is_real h (by simp)).2
      obtain ⟨n1, n2⟩ := nextA_ok hk acc.length
      obtain ⟨o1, o2⟩ := oneP_ok n1
      have hlen : (oneP (nextA c acc.length)).1.r.length < f := by rw [n2] at o2; omega
      refine ((ra_round hk (by omega) h acc h1 (by omega)).and (ra_loop f (oneP (nextA c acc.length)).1 (acc ++ [(oneP (nextA c acc.length)).2]) o1 hlen (by simp) (by simp; omega))).imp fun k ⟨q1, q2⟩ n gl o ro S hg hro hn' hS => ?_
      obtain ⟨n, rfl⟩ : ∃ m, n = m + 1 := ⟨n - 1, by omega⟩
      have q1 := q1 k gl o ro hg hro
      rw [← hS] at q1
      obtain ⟨S', hS', e⟩ := loop_on q1
      have ha : actsP (f + 1) c acc = actsP f (oneP (nextA c acc.length)).1 (acc ++ [(oneP (nextA c acc.length)).2]) := by
        rw [actsP, if_pos h]
        rfl
      rw [e, q2 n _ o ro S' (get_set hg _) hro (by omega) hS', ha, List.set_set]
    · have h' : c.is 3 [44] = false := by simpa using h
      have ht := take_c hk 3 [44]
      unfold Cu.take at ht
      rw [if_neg h, h'] at ht
      refine ht.imp fun k q1 n gl o ro S hg hro hn' hS => ?_
      obtain ⟨n, rfl⟩ : ∃ m, n = m + 1 := ⟨n - 1, by omega⟩
      have q1 := q1 gl o ro hg hro
      rw [set_same hg] at q1
      refine loop_exit ?_
      rw [hS]
      have ha : actsP (f + 1) c acc = (c, acc) := by
        rw [actsP, if_neg h]
      rw [ha]
      simp only [set_same hg]
      by_cases h11 : acc.length = 1
      · simp -implicitDefEqProofs [raS, bodyOf, loopsOf, hv, Tryz.f30, q1, h11]
      · simp -implicitDefEqProofs [raS, bodyOf, loopsOf, hv, Tryz.f30, q1, h11]
theorem actsP_ok : ∀ (f : Nat) (c : Cu) (acc : List Ac), c.Ok → (actsP f c acc).1.Ok ∧ (actsP f c acc).1.r.length ≤ c.r.length
  | 0, c, acc, hk => ⟨hk, Nat.le_refl _⟩
  | f + 1, c, acc, hk => by
    unfold actsP
    split
    · obtain ⟨n1, n2⟩ := nextA_ok hk acc.length
      obtain ⟨o1, o2⟩ := oneP_ok n1
      obtain ⟨r1, r2⟩ := actsP_ok f (oneP (nextA c acc.length)).1 (acc ++ [(oneP (nextA c acc.length)).2]) o1
      refine ⟨r1, Nat.le_trans r2 (Nat.le_trans o2 ?_)⟩
      rw [n2]
      exact (Cu.on_le c).2
    · exact ⟨hk, Nat.le_refl _⟩
theorem readA_ok {c : Cu} (hk : c.Ok) : (readA c).1.Ok ∧ (readA c).1.r.length ≤ c.r.length := by
  obtain ⟨o1, o2⟩ := oneP_ok hk
  obtain ⟨r1, r2⟩ := actsP_ok (c.r.length + 1) (oneP c).1 [(oneP c).2] o1
  exact ⟨r1, Nat.le_trans r2 o2⟩
theorem aread_ev {c : Cu} (hk : c.Ok) (hn : c.r.length < 50000) : DoesU 30 (fun o => [.w (.glo o 0)]) c.w (.c (L ((readA c).2.map Ac.c))) (readA c).1.w := by
  obtain ⟨o1, o2⟩ := oneP_ok hk
  have h1 := aone_ev hk (by omega)
  have h2 := ra_loop (c.r.length + 1) (oneP c).1 [(oneP c).2] o1 (by omega) (by simp) (by simp; omega)
  unfold readA
  simp only
  generalize hx : actsP (c.r.length + 1) (oneP c).1 [(oneP c).2] = x at h2 ⊢
  have h3 := good_c (c := x.1)
  generalize oneP c = y at h1 h2
  obtain ⟨d, a⟩ := y
  obtain ⟨e, l⟩ := x
  obtain ⟨nm, an, ex⟩ := a
  simp only [Ac.w] at h1 h2 h3 ⊢
  refine .intro Tryz.func30 (by kernel_rfl) ((h1.and (h2.and (h3.and (Evt.ge (c.r.length + 1))))).imp fun k ⟨h1, h2, h3, hkk⟩ gl o ro hg hro => ?_)
  have h1 := h1 gl o ro hg hro
  have h3 := fun ro => h3 (gl.set o e.w) o ro (get_set hg _)
  have tail : ∀ S : St, S.hav [0, 3, 18] = raS o [⟨nm, an, ex⟩] (gl.set o d.w) ro → loopC Tryz.prog cf 30 (ev k) k (bodyOf Tryz.f30 0) S = some (.exit 0, raS o l (gl.set o e.w) ro) := fun S hS => by
    have := h2 k _ o ro S (get_set hg _) hro (by omega) hS
    rw [List.set_set] at this
    exact this
  simp -implicitDefEqProofs [Tryz.f30, h1]
  refine bind_go (tail _ ?_) ?_
  · simp [raS, Ac.c]
  · by_cases he : e.e = 0
    · by_cases hl : l.length = 1
      · simp -implicitDefEqProofs [raS, h3, he, hl]
      · simp -implicitDefEqProofs [raS, h3, he, hl]
    · simp -implicitDefEqProofs [raS, h3, he]
/-! A transition, part by part. -/
theorem stE {c : Cu} (hk : c.Ok) : (tE c).1.Ok ∧ (tE c).1.r.length ≤ c.r.length ∧ (((tE c).2 = [] ∧ Evt fun k => ∀ gl o ro, (gl : List (List W))[o]? = some c.w → ro ≤ o → ev k 83 [.w (.glo o 0), I 1, T bAuto] ro gl = some (V.bool true, gl.set o (tE c).1.w)) ∨
    (True ∧ ∃ m : Cu, Evt fun k => ∀ gl o ro, (gl : List (List W))[o]? = some c.w → ro ≤ o → ev k 83 [.w (.glo o 0), I 1, T bAuto] ro gl = some (V.bool false, gl) ∧ ev k 107 [.w (.glo o 0), I 1, T bOn] ro gl = some (.tup [], gl.set o m.w) ∧
      ev k 108 [.w (.glo o 0)] ro (gl.set o m.w) = some (V.str (tE c).2, gl.set o (tE c).1.w))) := by
  have ht := take_c hk 1 bAuto
  unfold Cu.take at ht
  unfold tE
  by_cases h : c.is 1 bAuto = true
  · rw [if_pos h, h] at ht
    simp only [if_pos h]
    exact ⟨hk.on, (Cu.on_le c).2, .inl ⟨trivial, ht⟩⟩
  · have h' : c.is 1 bAuto = false := by simpa using h
    rw [if_neg h, h'] at ht
    simp only [if_neg h]
    refine ⟨name_ok (want_ok hk _ _), Nat.le_trans (Cu.name_le _).2 (Cu.want_le _ _ _).2, .inr ⟨trivial, c.want 1 bOn, (ht.and ((want_c hk 1 bOn).and (name_c (want_ok hk 1 bOn)))).imp fun k ⟨q1, q2, q3⟩ gl o ro hg hro => ?_⟩⟩
    have q1 := q1 gl o ro hg hro
    rw [set_same hg] at q1
    have q3 := q3 _ o ro (get_set hg (c.want 1 bOn).w) hro
    rw [List.set_set] at q3
    exact ⟨q1, q2 gl o ro hg hro, q3⟩
theorem stG {c : Cu} (hk : c.Ok) (hn : c.r.length < 50000) : (tG c).1.Ok ∧ (tG c).1.r.length ≤ c.r.length ∧ (((tG c).2 = [] ∧ Evt fun k => ∀ gl o ro, (gl : List (List W))[o]? = some c.w → ro ≤ o → ev k 83 [.w (.glo o 0), I 3, T [91]] ro gl = some (V.bool false, gl.set o (tG c).1.w)) ∨
    (True ∧ ∃ m n : Cu, Evt fun k => ∀ gl o ro, (gl : List (List W))[o]? = some c.w → ro ≤ o → ev k 83 [.w (.glo o 0), I 3, T [91]] ro gl = some (V.bool true, gl.set o m.w) ∧ ev k 146 [.w (.glo o 0)] ro (gl.set o m.w) = some (.c (L ((tG c).2.map Tm.c)), gl.set o n.w) ∧
      ev k 107 [.w (.glo o 0), I 3, T [93]] ro (gl.set o n.w) = some (.tup [], gl.set o (tG c).1.w))) := by
  have ht := take_c hk 3 [91]
  unfold Cu.take at ht
  unfold tG
  by_cases h : c.is 3 [91] = true
  · rw [if_pos h, h] at ht
    simp only [if_pos h]
    have hl := (Cu.on_le c).2
    refine ⟨want_ok (readP_ok hk.on) _ _, Nat.le_trans (Cu.want_le _ _ _).2 (Nat.le_trans readP_le hl), .inr ⟨trivial, c.on, (readP c.on).1, (ht.and ((Read_ev hk.on (by omega)).and (want_c (readP_ok hk.on) 3 [93]))).imp fun k ⟨q1, q2, q3⟩ gl o ro hg hro => ?_⟩⟩
    have q2 := q2 _ o ro (get_set hg c.on.w) hro
    have q3 := q3 _ o ro (get_set hg (readP c.on).1.w) hro
    rw [List.set_set] at q2 q3
    exact ⟨q1 gl o ro hg hro, q2, q3⟩
  · have h' : c.is 3 [91] = false := by simpa using h
    rw [if_neg h, h'] at ht
    simp only [if_neg h]
    exact ⟨hk, Nat.le_refl _, .inl ⟨trivial, ht⟩⟩
theorem stA {c : Cu} (hk : c.Ok) (hn : c.r.length < 40000) : (tA c).1.Ok ∧ (tA c).1.r.length ≤ c.r.length ∧ (((tA c).2 = [] ∧ Evt fun k => ∀ gl o ro, (gl : List (List W))[o]? = some c.w → ro ≤ o → ev k 83 [.w (.glo o 0), I 3, T [47]] ro gl = some (V.bool false, gl.set o (tA c).1.w)) ∨
    (True ∧ ∃ m : Cu, Evt fun k => ∀ gl o ro, (gl : List (List W))[o]? = some c.w → ro ≤ o → ev k 83 [.w (.glo o 0), I 3, T [47]] ro gl = some (V.bool true, gl.set o m.w) ∧ ev k 30 [.w (.glo o 0)] ro (gl.set o m.w) = some (.c (L ((tA c).2.map Ac.c)), gl.set o (tA c).1.w))) := by
  have ht := take_c hk 3 [47]
  unfold Cu.take at ht
  unfold tA
  by_cases h : c.is 3 [47] = true
  · rw [if_pos h, h] at ht
    simp only [if_pos h]
    have hl := (Cu.on_le c).2
    obtain ⟨r1, r2⟩ := readA_ok hk.on
    refine ⟨r1, Nat.le_trans r2 hl, .inr ⟨trivial, c.on, (ht.and (aread_ev hk.on (by omega))).imp fun k ⟨q1, q2⟩ gl o ro hg hro => ?_⟩⟩
    have q2 := q2 _ o ro (get_set hg c.on.w) hro
    rw [List.set_set] at q2
    exact ⟨q1 gl o ro hg hro, q2⟩
  · have h' : c.is 3 [47] = false := by simpa using h
    rw [if_neg h, h'] at ht
    simp only [if_neg h]
    exact ⟨hk, Nat.le_refl _, .inl ⟨trivial, ht⟩⟩
theorem stT {c : Cu} (hk : c.Ok) : (tT c).1.Ok ∧ (((tT c).2 = [] ∧ Evt fun k => ∀ gl o ro, (gl : List (List W))[o]? = some c.w → ro ≤ o → ev k 83 [.w (.glo o 0), I 3, T bTo] ro gl = some (V.bool false, gl.set o (tT c).1.w)) ∨
    (True ∧ ∃ m : Cu, Evt fun k => ∀ gl o ro, (gl : List (List W))[o]? = some c.w → ro ≤ o → ev k 83 [.w (.glo o 0), I 3, T bTo] ro gl = some (V.bool true, gl.set o m.w) ∧ ev k 108 [.w (.glo o 0)] ro (gl.set o m.w) = some (V.str (tT c).2, gl.set o (tT c).1.w))) := by
  have ht := take_c hk 3 bTo
  unfold Cu.take at ht
  unfold tT
  by_cases h : c.is 3 bTo = true
  · rw [if_pos h, h] at ht
    simp only [if_pos h]
    refine ⟨name_ok hk.on, .inr ⟨trivial, c.on, (ht.and (name_c hk.on)).imp fun k ⟨q1, q2⟩ gl o ro hg hro => ?_⟩⟩
    have q2 := q2 _ o ro (get_set hg c.on.w) hro
    rw [List.set_set] at q2
    exact ⟨q1 gl o ro hg hro, q2⟩
  · have h' : c.is 3 bTo = false := by simpa using h
    rw [if_neg h, h'] at ht
    simp only [if_neg h]
    exact ⟨hk, .inl ⟨trivial, ht⟩⟩
theorem TRead_ev {c : Cu} (hk : c.Ok) (hn : c.r.length < 40000) : DoesU 219 (fun o => [.w (.glo o 0)]) c.w (.c (readT c).2.w) (readT c).1.w := by
  unfold readT
  simp only
  obtain ⟨k1, l1, q1⟩ := stE hk
  generalize tE c = x1 at k1 l1 q1 ⊢
  obtain ⟨c1, ev'⟩ := x1
  simp only at k1 l1 q1 ⊢
  obtain ⟨k2, l2, q2⟩ := stG k1 (by omega)
  generalize tG c1 = x2 at k2 l2 q2 ⊢
  obtain ⟨c2, gd⟩ := x2
  simp only at k2 l2 q2 ⊢
  obtain ⟨k3, l3, q3⟩ := stA k2 (by omega)
  generalize tA c2 = x3 at k3 l3 q3 ⊢
  obtain ⟨c3, ac⟩ := x3
  simp only at k3 l3 q3 ⊢
  obtain ⟨k4, q4⟩ := stT k3
  generalize tT c3 = x4 at k4 q4 ⊢
  obtain ⟨c4, tg⟩ := x4
  simp only at k4 q4 ⊢
  have q5 := want_c k4 3 [59]
  generalize c4.want 3 [59] = c5 at q5 ⊢
  have q6 := good_c (c := c5)
  rcases q1 with ⟨x1, q1⟩ | ⟨x1, m1, q1⟩ <;> rcases q2 with ⟨x2, q2⟩ | ⟨x2, m2, n2, q2⟩ <;> rcases q3 with ⟨x3, q3⟩ | ⟨x3, m3, q3⟩ <;> rcases q4 with ⟨x4, q4⟩ | ⟨x4, m4, q4⟩
  all_goals
    refine .intro Tryz.func219 (by kernel_rfl) ((q1.and (q2.and (q3.and (q4.and (q5.and q6))))).imp fun k ⟨q1, q2, q3, q4, q5, q6⟩ gl o ro hg hro => ?_)
    have q1 := q1 gl o ro hg hro
    have q2 := q2 (gl.set o c1.w) o ro (get_set hg _) hro
    have q3 := q3 (gl.set o c2.w) o ro (get_set hg _) hro
    have q4 := q4 (gl.set o c3.w) o ro (get_set hg _) hro
    have q5 := q5 (gl.set o c4.w) o ro (get_set hg _) hro
    have q6 := fun ro => q6 (gl.set o c5.w) o ro (get_set hg _)
    simp only [List.set_set] at q2 q3 q4 q5
    by_cases he : c5.e = 0
    · simp -implicitDefEqProofs [Tryz.f219, q1, q2, q3, q4, q5, q6, he, x1, x2, x3, x4, Tn.w]
    · simp -implicitDefEqProofs [Tryz.f219, q1, q2, q3, q4, q5, q6, he, x1, x2, x3, x4, Tn.w, tn0]
end Go.Proofs.YtckonoejmjblfaaGreatDoor.Ev
