/- Layers 8 and 9: acts and transitions are read. -/
import Derived.Test.YtckonoejmjblfaaGreatPkTrp
import Derived.Test.YtckonoejmjblfaaGreatPkRok
import Derived.Test.YtckonoejmjblfaaGreatPkExpA
set_option linter.unusedVariables false
set_option linter.unusedSimpArgs false
set_option maxRecDepth 100000
set_option maxHeartbeats 2000000
namespace Go.Proofs.YtckonoejmjblfaaGreat.Ev
open Go Go.RowKit

theorem take_eq {c : Cu} (kd : Int) (t : List UInt8) : c.take kd t = if c.is kd t then c.on else c := rfl
theorem readP_le {c : Cu} : (readP c).1.r.length ≤ c.r.length := by
  have := (lvN_fine (c.r.length + 1) 1 c).1.2
  unfold readP
  simp only
  split
  · split
    · rw [Cu.fail_r]; exact this
    · split
      · rw [Cu.fail_r]; exact this
      · exact this
  · exact this
theorem name_ok {c : Cu} (hk : c.Ok) : c.name.1.Ok := by
  unfold Cu.name
  split
  · exact hk.on
  · exact hk.fail _
theorem want_ok {c : Cu} (hk : c.Ok) (k : Int) (t : List UInt8) : (c.want k t).Ok := by
  unfold Cu.want
  split
  · exact hk.on
  · exact hk.fail _
theorem oneP_ok {c : Cu} (hk : c.Ok) : (oneP c).1.Ok ∧ (oneP c).1.r.length ≤ c.r.length := by
  unfold oneP
  split
  · exact ⟨name_ok hk.on, Nat.le_trans (Cu.name_le _).2 (Cu.on_le _).2⟩
  · exact ⟨readP_ok (want_ok (name_ok hk) _ _), Nat.le_trans readP_le (Nat.le_trans (Cu.want_le _ _ _).2 (Cu.name_le _).2)⟩
theorem aone_ev {c : Cu} (hk : c.Ok) (hn : c.r.length < 90000) : DoesU 15 (fun o => [.w (.glo o 0)]) c.w (.c (oneP c).2.w) (oneP c).1.w := by
  have ht := take_c hk 1 bAny
  unfold oneP
  by_cases h : c.is 1 bAny = true
  · rw [if_pos h]
    have h2 := name_c hk.on
    unfold Cu.take at ht
    rw [if_pos h, h] at ht
    generalize c.on.name = x at h2 ⊢
    generalize c.on = c1 at ht h2
    refine .intro Tryz.func15 (by kernel_rfl) ((ht.and h2).imp fun k ⟨h1, h2⟩ gl o ro hg hro => ?_)
    have h1 := h1 gl o ro hg hro
    have h2 := h2 _ o ro (get_set hg _) hro
    simp only [List.set_set] at h2
    simp -implicitDefEqProofs [Tryz.f15, h1, h2, Ac.w]
  · rw [if_neg h]
    have h' : c.is 1 bAny = false := by simpa using h
    have h2 := name_c hk
    have h3 := want_c (name_ok hk) 3 bGets
    have h4 := Read_ev (want_ok (name_ok hk) 3 bGets) (Nat.lt_of_le_of_lt (Nat.le_trans (Cu.want_le _ _ _).2 (Cu.name_le _).2) hn)
    unfold Cu.take at ht
    rw [if_neg h, h'] at ht
    generalize readP (c.name.1.want 3 bGets) = y at h4 ⊢
    generalize c.name.1.want 3 bGets = c2 at h3 h4
    generalize c.name = x at h2 h3 ⊢
    refine .intro Tryz.func15 (by kernel_rfl) ((ht.and (h2.and (h3.and h4))).imp fun k ⟨h1, h2, h3, h4⟩ gl o ro hg hro => ?_)
    have h1 := h1 gl o ro hg hro
    rw [set_same hg] at h1
    have h2 := h2 gl o ro hg hro
    have h3 := h3 _ o ro (get_set hg _) hro
    have h4 := h4 _ o ro (get_set hg _) hro
    simp only [List.set_set] at h3 h4
    simp -implicitDefEqProofs [Tryz.f15, h1, h2, h3, h4, Ac.w]
def raS (o : Nat) (acc : List Ac) (gl : List (List W)) (ro : Nat) : St :=
  st 23 [(0, .c (.w (.glo o 0))), (3, if acc.length = 1 then .c (.w (.full (acc.map Ac.c))) else .c (.w (.app 18 (acc.map Ac.c)))), (18, if acc.length = 1 then V.un else .c (.w (.app 18 (acc.map Ac.c))))]
    [] (if acc.length = 1 then [] else [(18, ⟨acc.length, 45, 3⟩)]) gl ro
def nextA (c : Cu) (n : Nat) : Cu := if n = 8 then c.on.fail 8 else c.on
theorem nextA_ok {c : Cu} (hk : c.Ok) (n : Nat) : (nextA c n).Ok ∧ (nextA c n).r = c.on.r := by
  unfold nextA
  split
  · exact ⟨hk.on.fail _, Cu.fail_r _ _⟩
  · exact ⟨hk.on, rfl⟩
/-- One more act. -/
theorem ra_round {c : Cu} (hk : c.Ok) (hn : c.r.length < 90000) (h : c.is 3 [44] = true) (acc : List Ac) (h1 : 1 ≤ acc.length) (hl : acc.length ≤ 90000) : Evt fun k => ∀ N gl o ro, gl[o]? = some c.w → ro ≤ o →
    (evC Tryz.prog cf 6 (ev k) N (bodyOf Tryz.f6 0) (raS o acc gl ro)).map (hv [0, 3, 18]) = some (.normal, raS o (acc ++ [(oneP (nextA c acc.length)).2]) (gl.set o (oneP (nextA c acc.length)).1.w) ro) := by
  have ht := take_c hk 3 [44]
  unfold Cu.take at ht
  rw [if_pos h, h] at ht
  obtain ⟨n1, n2⟩ := nextA_ok hk acc.length
  have hf := fail_c hk.on 8
  have ho := aone_ev n1 (by rw [n2, Cu.on_r]; simp; omega)
  have hone : nextA c acc.length = if acc.length = 8 then c.on.fail 8 else c.on := rfl
  generalize oneP (nextA c acc.length) = y at ho ⊢
  have g1 : (acc.length + 1) * 48 ≤ 140737488355328 := by omega
  have g2 : acc.length ≤ 9223372036854775806 := by omega
  obtain ⟨d, a⟩ := y
  obtain ⟨nm, an, ex⟩ := a
  simp only [Ac.w] at ho ⊢
  refine (ht.and (hf.and ho)).imp fun k ⟨q1, q2, q3⟩ N gl o ro hg hro => ?_
  have q1 := q1 gl o ro hg hro
  by_cases h8 : acc.length = 8
  · rw [hone, if_pos h8] at q3
    have q2 := q2 _ o ro (get_set hg _) hro
    have q3 := q3 _ o ro (get_set hg _) hro
    simp only [List.set_set] at q2 q3
    have h81 : ¬ acc.length = 1 := by omega
    have ha0 : ¬ acc = [] := by rintro rfl; simp at h8
    simp -implicitDefEqProofs [raS, bodyOf, loopsOf, hv, Tryz.f6, q1, q2, q3, h8, ha0, Ac.c, Ac.w]
  · rw [hone, if_neg h8] at q3
    have q3 := q3 _ o ro (get_set hg _) hro
    simp only [List.set_set] at q3
    have h8' : ¬ (acc.length : Int) = 8 := by omega
    by_cases h11 : acc.length = 1
    · simp -implicitDefEqProofs [raS, bodyOf, loopsOf, hv, Tryz.f6, q1, q3, h11, Ac.c, Ac.w]
    · have ha0 : ¬ acc = [] := by rintro rfl; simp at h1
      simp -implicitDefEqProofs [raS, bodyOf, loopsOf, hv, Tryz.f6, q1, q3, h8, h8', h11, ha0, g1, g2, Ac.c, Ac.w]
end Go.Proofs.YtckonoejmjblfaaGreat.Ev
