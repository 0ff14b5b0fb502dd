/- Layers 8 and 9: acts and transitions are read. -/
import Derived.Test.YtckonoejmjblfaaGreatPkTrn7
set_option linter.unusedVariables false
set_option linter.unusedSimpArgs false
set_option maxRecDepth 100000
set_option maxHeartbeats 4000000
namespace Go.Proofs.YtckonoejmjblfaaGreat.Ev
open Go Go.RowKit

theorem ra_loop : ∀ (f : Nat) (c : Cu) (acc : List Ac), c.Ok → c.r.length < f → 1 ≤ acc.length → acc.length + f ≤ 80000 → Evt fun k => ∀ n gl o ro S, (gl : List (List W))[o]? = some c.w → ro ≤ o → f ≤ n → S.hav [0, 3, 18] = raS o acc gl ro →
    loopA (evC Tryz.prog cf 6 (ev k) k (bodyOf Tryz.f6 0)) [0, 3, 18] [] n S = some (.exit 0, raS o (actsP f c acc).2 (gl.set o (actsP f c acc).1.w) ro)
  | 0, c, acc, _, hf, _, _ => absurd hf (by omega)
  | f + 1, c, acc, hk, hf, h1, hl => by
    by_cases h : c.is 3 [44] = true
    · have hr := (Cu.is_real h (by simp)).2
      obtain ⟨n1, n2⟩ := nextA_ok hk acc.length
      obtain ⟨o1, o2⟩ := oneP_ok n1
      have hlen : (oneP (nextA c acc.length)).1.r.length < f := by rw [n2] at o2; omega
      refine ((ra_round hk (by omega) h acc h1 (by omega)).and (ra_loop f (oneP (nextA c acc.length)).1 (acc ++ [(oneP (nextA c acc.length)).2]) o1 hlen (by simp) (by simp; omega))).imp fun k ⟨q1, q2⟩ n gl o ro S hg hro hn' hS => ?_
      obtain ⟨n, rfl⟩ : ∃ m, n = m + 1 := ⟨n - 1, by omega⟩
      have q1 := q1 k gl o ro hg hro
      rw [← hS] at q1
      obtain ⟨S', hS', e⟩ := loop_on q1
      have ha : actsP (f + 1) c acc = actsP f (oneP (nextA c acc.length)).1 (acc ++ [(oneP (nextA c acc.length)).2]) := by
        rw [actsP, if_pos h]
        rfl
      rw [e, q2 n _ o ro S' (get_set hg _) hro (by omega) hS', ha, List.set_set]
    · have h' : c.is 3 [44] = false := by simpa using h
      have ht := take_c hk 3 [44]
      unfold Cu.take at ht
      rw [if_neg h, h'] at ht
      refine ht.imp fun k q1 n gl o ro S hg hro hn' hS => ?_
      obtain ⟨n, rfl⟩ : ∃ m, n = m + 1 := ⟨n - 1, by omega⟩
      have q1 := q1 gl o ro hg hro
      rw [set_same hg] at q1
      refine loop_exit ?_
      rw [hS]
      have ha : actsP (f + 1) c acc = (c, acc) := by
        rw [actsP, if_neg h]
      rw [ha]
      simp only [set_same hg]
      by_cases h11 : acc.length = 1
      · simp -implicitDefEqProofs [raS, bodyOf, loopsOf, hv, Tryz.f6, q1, h11]
      · simp -implicitDefEqProofs [raS, bodyOf, loopsOf, hv, Tryz.f6, q1, h11]
theorem actsP_ok : ∀ (f : Nat) (c : Cu) (acc : List Ac), c.Ok → (actsP f c acc).1.Ok ∧ (actsP f c acc).1.r.length ≤ c.r.length
  | 0, c, acc, hk => ⟨hk, Nat.le_refl _⟩
  | f + 1, c, acc, hk => by
    unfold actsP
    split
    · obtain ⟨n1, n2⟩ := nextA_ok hk acc.length
      obtain ⟨o1, o2⟩ := oneP_ok n1
      obtain ⟨r1, r2⟩ := actsP_ok f (oneP (nextA c acc.length)).1 (acc ++ [(oneP (nextA c acc.length)).2]) o1
      refine ⟨r1, Nat.le_trans r2 (Nat.le_trans o2 ?_)⟩
      rw [n2]
      exact (Cu.on_le c).2
    · exact ⟨hk, Nat.le_refl _⟩
theorem readA_ok {c : Cu} (hk : c.Ok) : (readA c).1.Ok ∧ (readA c).1.r.length ≤ c.r.length := by
  obtain ⟨o1, o2⟩ := oneP_ok hk
  obtain ⟨r1, r2⟩ := actsP_ok (c.r.length + 1) (oneP c).1 [(oneP c).2] o1
  exact ⟨r1, Nat.le_trans r2 o2⟩
theorem aread_ev {c : Cu} (hk : c.Ok) (hn : c.r.length < 50000) : DoesU 6 (fun o => [.w (.glo o 0)]) c.w (.c (L ((readA c).2.map Ac.c))) (readA c).1.w := by
  obtain ⟨o1, o2⟩ := oneP_ok hk
  have h1 := aone_ev hk (by omega)
  have h2 := ra_loop (c.r.length + 1) (oneP c).1 [(oneP c).2] o1 (by omega) (by simp) (by simp; omega)
  unfold readA
  simp only
  generalize hx : actsP (c.r.length + 1) (oneP c).1 [(oneP c).2] = x at h2 ⊢
  have h3 := good_c (c := x.1)
  generalize oneP c = y at h1 h2
  obtain ⟨d, a⟩ := y
  obtain ⟨e, l⟩ := x
  obtain ⟨nm, an, ex⟩ := a
  simp only [Ac.w] at h1 h2 h3 ⊢
  refine .intro Tryz.func6 (by kernel_rfl) ((h1.and (h2.and (h3.and (Evt.ge (c.r.length + 1))))).imp fun k ⟨h1, h2, h3, hkk⟩ gl o ro hg hro => ?_)
  have h1 := h1 gl o ro hg hro
  have h3 := fun ro => h3 (gl.set o e.w) o ro (get_set hg _)
  have tail : ∀ S : St, S.hav [0, 3, 18] = raS o [⟨nm, an, ex⟩] (gl.set o d.w) ro → loopC Tryz.prog cf 6 (ev k) k (bodyOf Tryz.f6 0) S = some (.exit 0, raS o l (gl.set o e.w) ro) := fun S hS => by
    have := h2 k _ o ro S (get_set hg _) hro (by omega) hS
    rw [List.set_set] at this
    exact this
  simp -implicitDefEqProofs [Tryz.f6, h1]
  refine bind_go (tail _ ?_) ?_
  · simp [raS, Ac.c]
  · by_cases he : e.e = 0
    · by_cases hl : l.length = 1
      · simp -implicitDefEqProofs [raS, h3, he, hl]
      · simp -implicitDefEqProofs [raS, h3, he, hl]
    · simp -implicitDefEqProofs [raS, h3, he]
/-! A transition, part by part. -/
theorem stE {c : Cu} (hk : c.Ok) : (tE c).1.Ok ∧ (tE c).1.r.length ≤ c.r.length ∧ (((tE c).2 = [] ∧ Evt fun k => ∀ gl o ro, (gl : List (List W))[o]? = some c.w → ro ≤ o → ev k 16 [.w (.glo o 0), I 1, T bAuto] ro gl = some (V.bool true, gl.set o (tE c).1.w)) ∨
    (True ∧ ∃ m : Cu, Evt fun k => ∀ gl o ro, (gl : List (List W))[o]? = some c.w → ro ≤ o → ev k 16 [.w (.glo o 0), I 1, T bAuto] ro gl = some (V.bool false, gl) ∧ ev k 34 [.w (.glo o 0), I 1, T bOn] ro gl = some (.tup [], gl.set o m.w) ∧
      ev k 33 [.w (.glo o 0)] ro (gl.set o m.w) = some (V.str (tE c).2, gl.set o (tE c).1.w))) := by
  have ht := take_c hk 1 bAuto
  unfold Cu.take at ht
  unfold tE
  by_cases h : c.is 1 bAuto = true
  · rw [if_pos h, h] at ht
    simp only [if_pos h]
    exact ⟨hk.on, (Cu.on_le c).2, .inl ⟨trivial, ht⟩⟩
  · have h' : c.is 1 bAuto = false := by simpa using h
    rw [if_neg h, h'] at ht
    simp only [if_neg h]
    refine ⟨name_ok (want_ok hk _ _), Nat.le_trans (Cu.name_le _).2 (Cu.want_le _ _ _).2, .inr ⟨trivial, c.want 1 bOn, (ht.and ((want_c hk 1 bOn).and (name_c (want_ok hk 1 bOn)))).imp fun k ⟨q1, q2, q3⟩ gl o ro hg hro => ?_⟩⟩
    have q1 := q1 gl o ro hg hro
    rw [set_same hg] at q1
    have q3 := q3 _ o ro (get_set hg (c.want 1 bOn).w) hro
    rw [List.set_set] at q3
    exact ⟨q1, q2 gl o ro hg hro, q3⟩
theorem stG {c : Cu} (hk : c.Ok) (hn : c.r.length < 50000) : (tG c).1.Ok ∧ (tG c).1.r.length ≤ c.r.length ∧ (((tG c).2 = [] ∧ Evt fun k => ∀ gl o ro, (gl : List (List W))[o]? = some c.w → ro ≤ o → ev k 16 [.w (.glo o 0), I 3, T [91]] ro gl = some (V.bool false, gl.set o (tG c).1.w)) ∨
    (True ∧ ∃ m n : Cu, Evt fun k => ∀ gl o ro, (gl : List (List W))[o]? = some c.w → ro ≤ o → ev k 16 [.w (.glo o 0), I 3, T [91]] ro gl = some (V.bool true, gl.set o m.w) ∧ ev k 35 [.w (.glo o 0)] ro (gl.set o m.w) = some (.c (L ((tG c).2.map Tm.c)), gl.set o n.w) ∧
      ev k 34 [.w (.glo o 0), I 3, T [93]] ro (gl.set o n.w) = some (.tup [], gl.set o (tG c).1.w))) := by
  have ht := take_c hk 3 [91]
  unfold Cu.take at ht
  unfold tG
  by_cases h : c.is 3 [91] = true
  · rw [if_pos h, h] at ht
    simp only [if_pos h]
    have hl := (Cu.on_le c).2
    refine ⟨want_ok (readP_ok hk.on) _ _, Nat.le_trans (Cu.want_le _ _ _).2 (Nat.le_trans readP_le hl), .inr ⟨trivial, c.on, (readP c.on).1, (ht.and ((Read_ev hk.on (by omega)).and (want_c (readP_ok hk.on) 3 [93]))).imp fun k ⟨q1, q2, q3⟩ gl o ro hg hro => ?_⟩⟩
    have q2 := q2 _ o ro (get_set hg c.on.w) hro
    have q3 := q3 _ o ro (get_set hg (readP c.on).1.w) hro
    rw [List.set_set] at q2 q3
    exact ⟨q1 gl o ro hg hro, q2, q3⟩
  · have h' : c.is 3 [91] = false := by simpa using h
    rw [if_neg h, h'] at ht
    simp only [if_neg h]
    exact ⟨hk, Nat.le_refl _, .inl ⟨trivial, ht⟩⟩
theorem stA {c : Cu} (hk : c.Ok) (hn : c.r.length < 40000) : (tA c).1.Ok ∧ (tA c).1.r.length ≤ c.r.length ∧ (((tA c).2 = [] ∧ Evt fun k => ∀ gl o ro, (gl : List (List W))[o]? = some c.w → ro ≤ o → ev k 16 [.w (.glo o 0), I 3, T [47]] ro gl = some (V.bool false, gl.set o (tA c).1.w)) ∨
    (True ∧ ∃ m : Cu, Evt fun k => ∀ gl o ro, (gl : List (List W))[o]? = some c.w → ro ≤ o → ev k 16 [.w (.glo o 0), I 3, T [47]] ro gl = some (V.bool true, gl.set o m.w) ∧ ev k 6 [.w (.glo o 0)] ro (gl.set o m.w) = some (.c (L ((tA c).2.map Ac.c)), gl.set o (tA c).1.w))) := by
  have ht := take_c hk 3 [47]
  unfold Cu.take at ht
  unfold tA
  by_cases h : c.is 3 [47] = true
  · rw [if_pos h, h] at ht
    simp only [if_pos h]
    have hl := (Cu.on_le c).2
    obtain ⟨r1, r2⟩ := readA_ok hk.on
    refine ⟨r1, Nat.le_trans r2 hl, .inr ⟨trivial, c.on, (ht.and (aread_ev hk.on (by omega))).imp fun k ⟨q1, q2⟩ gl o ro hg hro => ?_⟩⟩
    have q2 := q2 _ o ro (get_set hg c.on.w) hro
    rw [List.set_set] at q2
    exact ⟨q1 gl o ro hg hro, q2⟩
  · have h' : c.is 3 [47] = false := by simpa using h
    rw [if_neg h, h'] at ht
    simp only [if_neg h]
    exact ⟨hk, Nat.le_refl _, .inl ⟨trivial, ht⟩⟩
theorem stT {c : Cu} (hk : c.Ok) : (tT c).1.Ok ∧ (((tT c).2 = [] ∧ Evt fun k => ∀ gl o ro, (gl : List (List W))[o]? = some c.w → ro ≤ o → ev k 16 [.w (.glo o 0), I 3, T bTo] ro gl = some (V.bool false, gl.set o (tT c).1.w)) ∨
    (True ∧ ∃ m : Cu, Evt fun k => ∀ gl o ro, (gl : List (List W))[o]? = some c.w → ro ≤ o → ev k 16 [.w (.glo o 0), I 3, T bTo] ro gl = some (V.bool true, gl.set o m.w) ∧ ev k 33 [.w (.glo o 0)] ro (gl.set o m.w) = some (V.str (tT c).2, gl.set o (tT c).1.w))) := by
  have ht := take_c hk 3 bTo
  unfold Cu.take at ht
  unfold tT
  by_cases h : c.is 3 bTo = true
  · rw [if_pos h, h] at ht
    simp only [if_pos h]
    refine ⟨name_ok hk.on, .inr ⟨trivial, c.on, (ht.and (name_c hk.on)).imp fun k ⟨q1, q2⟩ gl o ro hg hro => ?_⟩⟩
    have q2 := q2 _ o ro (get_set hg c.on.w) hro
    rw [List.set_set] at q2
    exact ⟨q1 gl o ro hg hro, q2⟩
  · have h' : c.is 3 bTo = false := by simpa using h
    rw [if_neg h, h'] at ht
    simp only [if_neg h]
    exact ⟨hk, .inl ⟨trivial, ht⟩⟩
end Go.Proofs.YtckonoejmjblfaaGreat.Ev
