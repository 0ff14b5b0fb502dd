/- Layers 8 and 9: acts and transitions: the plain words; their texts are read as them. -/
import Derived.Test.YtckonoejmjblfaaGreatDoorPkTrp
import Derived.Test.YtckonoejmjblfaaGreatDoorPkRnd
import Derived.Test.YtckonoejmjblfaaGreatDoorPkLaw6f
import Derived.Test.YtckonoejmjblfaaGreatDoorPkActA
import Derived.Test.YtckonoejmjblfaaGreatDoorPkAct2
import Derived.Test.YtckonoejmjblfaaGreatDoorPkPutB
set_option linter.unusedVariables false
set_option linter.unusedSimpArgs false
set_option maxRecDepth 100000
set_option maxHeartbeats 2000000
namespace Go.Proofs.YtckonoejmjblfaaGreatDoor.Ev
open Go Go.RowKit
def named (s : List UInt8) : Bool := decide (s = []) || isName s
def checkT (t : Tn) : Int :=
  if named t.event = false ∨ named t.target = false then 1
  else if t.guard ≠ [] ∧ checkV t.guard ≠ 0 then checkV t.guard
  else checkA t.acts
/-- A transition's text. -/
def putT (t : Tn) : List UInt8 :=
  (if t.event = [] then bAuto else bOn ++ 32 :: t.event) ++ ((if t.guard = [] then [] else 32 :: 91 :: (txtV t.guard ++ [93])) ++ ((if t.acts = [] then [] else 32 :: 47 :: 32 :: putA t.acts) ++ ((if t.target = [] then [] else 32 :: (bTo ++ 32 :: t.target)) ++ [59])))
/-! Words. -/
def exprW (l : List Tm) : List Wd := match stk l with
  | some [e] => e.wds
  | _ => []
theorem exprW_eq {e : Tr} (h : e.wf) {l : List Tm} (hl : l = e.flat) : exprW l = e.wds := by rw [hl]; unfold exprW; rw [stk_whole e h]
def actW (a : Ac) : List Wd := if a.any then [(1, bAny), (1, a.name)] else (1, a.name) :: (3, bGets) :: exprW a.expr
def actsW : List Ac → List Wd
  | [] => []
  | [a] => actW a
  | a :: b :: r => actW a ++ (3, [44]) :: actsW (b :: r)
def tnW (t : Tn) : List Wd :=
  (if t.event = [] then [(1, bAuto)] else [(1, bOn), (1, t.event)]) ++ ((if t.guard = [] then [] else (3, [91]) :: (exprW t.guard ++ [(3, [93])])) ++ ((if t.acts = [] then [] else (3, [47]) :: actsW t.acts) ++ ((if t.target = [] then [] else [(3, bTo), (1, t.target)]) ++ [(3, [59])])))
/-- A cursor with an expression's words ahead reads it. -/
theorem readP_ahd {l : List Tm} (h0 : checkV l = 0) {c : Cu} {ws : List Wd} (hc : Ahd c (exprW l ++ ws)) (hs : Stp 1 ws) : ∃ d, Ahd d ws ∧ readP c = (d, l) := by
  obtain ⟨e, e1, e2, e3, e4, e5⟩ := checkV_tree h0
  rw [exprW_eq e1 e2] at hc
  obtain ⟨d, d1, d2⟩ := (U_all e e1 e3).plain (k := 1) (n := c.r.length + 1) (by omega) (level_rng _).1 (by omega) hc hs
  refine ⟨d, d1, ?_⟩
  unfold readP
  simp only
  rw [d2]
  simp only
  rw [if_pos d1.1, if_neg (by omega), depV_flat e1, if_neg (by omega), if_pos d1.1, e2]
theorem Ahd.name {c : Cu} {t : List UInt8} {ws : List Wd} (h : Ahd c ((1, t) :: ws)) (ht : isName t = true) : c.name = (c.on, t) := by
  obtain ⟨he, k1, k2, _⟩ := h.cons
  unfold Cu.name Cu.named
  rw [if_pos (by simp [he, k1, k2, ht]), k2]
theorem Ahd.isnt {c : Cu} {k : Int} {t : List UInt8} {ws : List Wd} (h : Ahd c ((k, t) :: ws)) {k' : Int} {t' : List UInt8} (hn : ¬ (k = k' ∧ t = t')) : c.is k' t' = false := by
  rw [h.is, ← Bool.decide_and]
  simpa using hn
theorem oneP_ahd {a : Ac} (h0 : actE a = 0) {c : Cu} {ws : List Wd} (hc : Ahd c (actW a ++ ws)) (hs : Stp 1 ws) : ∃ d, Ahd d ws ∧ oneP c = (d, a) := by
  obtain ⟨nm, an, ex⟩ := a
  unfold actE at h0
  simp only at h0
  have hn : isName nm = true := by
    cases h : isName nm with
    | true => rfl
    | false => rw [h, if_pos rfl] at h0; cases h0
  rw [hn, if_neg (by decide)] at h0
  unfold oneP
  unfold actW at hc
  cases an with
  | true =>
    have hx : ex = [] := by
      by_cases h : ex = []
      · exact h
      · rw [if_pos rfl, if_neg h] at h0; cases h0
    subst hx
    simp only [if_true, List.cons_append, List.nil_append] at hc
    obtain ⟨_, _, _, h2, _⟩ := hc.cons
    obtain ⟨_, _, _, h3, _⟩ := h2.cons
    rw [if_pos (by rw [hc.is]; decide), h2.name hn]
    exact ⟨_, h3, rfl⟩
  | false =>
    rw [if_neg (by decide)] at h0
    simp only [Bool.false_eq_true, if_false, List.cons_append] at hc
    obtain ⟨_, _, _, h2, _⟩ := hc.cons
    obtain ⟨_, _, _, h3, _⟩ := h2.cons
    obtain ⟨d, d1, d2⟩ := readP_ahd h0 h3 hs
    have hany : nm ≠ bAny := by
      rintro rfl
      revert hn
      decide
    rw [hc.isnt (fun h => hany h.2), if_neg (by decide), hc.name hn]
    simp only
    rw [h2.want, d2]
    exact ⟨d, d1, rfl⟩
theorem actsW_cons (a : Ac) (r : List Ac) : actsW (a :: r) = actW a ++ (r.map fun b => (3, [44]) :: actW b).flatten := by
  induction r generalizing a with
  | nil => simp [actsW]
  | cons b r ih => simp [actsW, ih b]
theorem actsP_ahd : ∀ (r : List Ac) (acc : List Ac) (c : Cu) (ws : List Wd) (n : Nat), (∀ a ∈ r, actE a = 0) → acc.length + r.length ≤ 8 → r.length < n → Ahd c ((r.map fun b => (3, [44]) :: actW b).flatten ++ ws) → (∀ w q, ws = w :: q → w ≠ (3, [44])) → ws ≠ [] → Stp 1 ws →
    ∃ d, Ahd d ws ∧ actsP n c acc = (d, acc ++ r)
  | [], acc, c, ws, n + 1, h0, hl, hn, hc, hw, hne, hs => by
    simp only [List.map_nil, List.flatten_nil, List.nil_append] at hc
    refine ⟨c, hc, ?_⟩
    cases ws with
    | nil => exact absurd rfl hne
    | cons w q =>
      have : c.is 3 [44] = false := hc.isnt (k := w.1) (t := w.2) fun h => hw w q rfl (Prod.ext h.1 h.2)
      unfold actsP
      rw [this, if_neg (by decide), List.append_nil]
  | a :: r, acc, c, ws, n + 1, h0, hl, hn, hc, hw, hne, hs => by
    simp only [List.map_cons, List.flatten_cons, List.cons_append, List.append_assoc, List.length_cons] at hc hl hn
    obtain ⟨_, _, _, h2, _⟩ := hc.cons
    have hs2 : Stp 1 ((r.map fun b => (3, [44]) :: actW b).flatten ++ ws) := by
      cases r with
      | nil => simpa using hs
      | cons b r =>
        simp only [List.map_cons, List.flatten_cons, List.cons_append]
        exact Stp.no (by decide) 1 _
    obtain ⟨d, d1, d2⟩ := oneP_ahd (h0 a (by simp)) h2 hs2
    obtain ⟨f, f1, f2⟩ := actsP_ahd r (acc ++ [a]) d ws n (fun x hx => h0 x (by simp [hx])) (by simp; omega) (by omega) d1 hw hne hs
    refine ⟨f, f1, ?_⟩
    unfold actsP
    rw [if_pos (by rw [hc.is]; decide), if_neg (by omega)]
    simp only
    rw [d2]
    simp only
    rw [f2]
    simp
theorem exprW_pos {l : List Tm} (h0 : checkV l = 0) : 0 < (exprW l).length := by
  obtain ⟨e, e1, e2, e3, e4, e5⟩ := checkV_tree h0
  rw [exprW_eq e1 e2]
  cases e with
  | leaf t => simp only [Tr.wds]; repeat (first | split | simp)
  | one t a => simp only [Tr.wds]; split <;> simp
  | two t a b =>
    simp only [Tr.wds]
    split
    · simp
    · split
      · simp
      · simp only [List.length_append, List.length_cons]; omega
theorem readA_ahd {l : List Ac} (h0 : checkA l = 0) (hl : l ≠ []) {c : Cu} {ws : List Wd} (hc : Ahd c (actsW l ++ ws)) (hw : ∀ w q, ws = w :: q → w ≠ (3, [44])) (hne : ws ≠ []) (hs : Stp 1 ws) : ∃ d, Ahd d ws ∧ readA c = (d, l) := by
  obtain ⟨h8, hall⟩ := checkA_all h0
  cases l with
  | nil => exact absurd rfl hl
  | cons a r =>
    rw [actsW_cons, List.append_assoc] at hc
    have hs2 : Stp 1 ((r.map fun b => (3, [44]) :: actW b).flatten ++ ws) := by
      cases r with
      | nil => simpa using hs
      | cons b r =>
        simp only [List.map_cons, List.flatten_cons, List.cons_append]
        exact Stp.no (by decide) 1 _
    have hlen : r.length ≤ c.r.length := by
      have : ∀ r : List Ac, r.length ≤ (r.map fun b => ((3, [44]) : Wd) :: actW b).flatten.length := by
        intro r
        induction r with
        | nil => simp
        | cons b r ih => simp only [List.length_cons, List.map_cons, List.flatten_cons, List.length_append]; omega
      have := this r
      rw [hc.len]
      simp only [List.length_append]
      omega
    obtain ⟨d, d1, d2⟩ := oneP_ahd (hall a (by simp)) hc hs2
    obtain ⟨f, f1, f2⟩ := actsP_ahd r [a] d ws (c.r.length + 1) (fun x hx => hall x (by simp [hx])) (by simp at h8 ⊢; omega) (by omega) d1 hw hne hs
    refine ⟨f, f1, ?_⟩
    unfold readA
    simp only
    rw [d2]
    simp only
    rw [f2]
    simp only
    rw [if_pos f1.1]
    rfl
theorem checkT_parts {t : Tn} (h : checkT t = 0) : (t.event = [] ∨ isName t.event = true) ∧ (t.target = [] ∨ isName t.target = true) ∧ (t.guard = [] ∨ checkV t.guard = 0) ∧ checkA t.acts = 0 := by
  unfold checkT at h
  split at h
  · cases h
  · rename_i h1
    simp only [not_or, named, Bool.or_eq_false_iff, decide_eq_false_iff_not, not_and] at h1
    obtain ⟨h1, h2⟩ := h1
    split at h
    · rename_i h3
      exact absurd h h3.2
    · rename_i h3
      refine ⟨?_, ?_, ?_, h⟩
      · by_cases he : t.event = []
        · exact .inl he
        · exact .inr (by simpa using h1 he)
      · by_cases he : t.target = []
        · exact .inl he
        · exact .inr (by simpa using h2 he)
      · by_cases hg : t.guard = []
        · exact .inl hg
        · exact .inr (by
            apply Classical.byContradiction
            intro hx
            exact h3 ⟨hg, hx⟩)
/-- What may come behind the parts of a transition. -/
def Nx (ws : List Wd) : Prop := ∃ w q, ws = w :: q ∧ w ∈ ([(3, [91]), (3, [47]), (3, bTo), (3, [59]), (3, [93])] : List Wd)
theorem Nx.stp {ws : List Wd} (h : Nx ws) : Stp 1 ws := by
  obtain ⟨w, q, rfl, h⟩ := h
  simp only [List.mem_cons, List.not_mem_nil, or_false] at h
  rcases h with rfl | rfl | rfl | rfl | rfl <;> exact Stp.no (by decide) 1 _
theorem Nx.comma {ws : List Wd} (h : Nx ws) : (∀ w q, ws = w :: q → w ≠ (3, [44])) ∧ ws ≠ [] := by
  obtain ⟨w, q, rfl, h⟩ := h
  refine ⟨?_, by simp⟩
  rintro v p e
  cases e
  simp only [List.mem_cons, List.not_mem_nil, or_false] at h
  rcases h with rfl | rfl | rfl | rfl | rfl <;> decide
/-- The words of a transition are read as it. -/
theorem readT_ahd {t : Tn} (h0 : checkT t = 0) {c : Cu} {ws : List Wd} (hc : Ahd c (tnW t ++ ws)) : ∃ d, Ahd d ws ∧ readT c = (d, t) := by
  obtain ⟨p1, p2, p3, p4⟩ := checkT_parts h0
  obtain ⟨ev, gd, ac, tg⟩ := t
  simp only at p1 p2 p3 p4
  unfold tnW at hc
  simp only [List.append_assoc] at hc
  -- behind the target
  obtain ⟨W4, hW4⟩ : ∃ W4 : List Wd, (if tg = [] then [] else [(3, bTo), (1, tg)]) ++ ([(3, [59])] ++ ws) = W4 := ⟨_, rfl⟩
  have q4 : ∀ c4, Ahd c4 W4 → ∃ d, Ahd d ((3, [59]) :: ws) ∧ tT c4 = (d, tg) := by
    intro c4 h4
    rw [← hW4] at h4
    unfold tT
    by_cases ht : tg = []
    · subst ht
      simp only [if_true, List.nil_append, List.cons_append] at h4
      rw [h4.isnt (by decide), if_neg (by decide)]
      exact ⟨c4, h4, rfl⟩
    · simp only [if_neg ht, List.nil_append, List.cons_append] at h4
      obtain ⟨_, _, _, h5, _⟩ := h4.cons
      obtain ⟨_, _, _, h6, _⟩ := h5.cons
      rw [if_pos (by rw [h4.is]; decide), h5.name (p2.resolve_left ht)]
      exact ⟨_, h6, rfl⟩
  have n4 : Nx W4 := by
    rw [← hW4]
    by_cases ht : tg = []
    · simp only [if_pos ht]; exact ⟨_, _, rfl, by decide⟩
    · simp only [if_neg ht]; exact ⟨_, _, rfl, by decide⟩
  rw [hW4] at hc
  obtain ⟨W3, hW3⟩ : ∃ W3 : List Wd, (if ac = [] then [] else (3, [47]) :: actsW ac) ++ W4 = W3 := ⟨_, rfl⟩
  have q3 : ∀ c3, Ahd c3 W3 → ∃ d, Ahd d W4 ∧ tA c3 = (d, ac) := by
    intro c3 h3
    rw [← hW3] at h3
    unfold tA
    by_cases ht : ac = []
    · subst ht
      simp only [if_true, List.nil_append] at h3
      have hn : c3.is 3 [47] = false := by
        rw [← hW4] at h3
        by_cases ht : tg = []
        · simp only [if_pos ht, List.nil_append, List.cons_append] at h3
          exact h3.isnt (by decide)
        · simp only [if_neg ht, List.nil_append, List.cons_append] at h3
          exact h3.isnt (by decide)
      rw [hn, if_neg (by decide)]
      exact ⟨c3, h3, rfl⟩
    · simp only [if_neg ht, List.cons_append] at h3
      obtain ⟨_, _, _, h5, _⟩ := h3.cons
      obtain ⟨d, d1, d2⟩ := readA_ahd p4 ht h5 n4.comma.1 n4.comma.2 n4.stp
      rw [if_pos (by rw [h3.is]; decide), d2]
      exact ⟨d, d1, rfl⟩
  have n3 : Nx W3 := by
    rw [← hW3]
    by_cases ht : ac = []
    · simp only [if_pos ht, List.nil_append]; exact n4
    · simp only [if_neg ht, List.cons_append]; exact ⟨_, _, rfl, by decide⟩
  rw [hW3] at hc
  obtain ⟨W2, hW2⟩ : ∃ W2 : List Wd, (if gd = [] then [] else (3, [91]) :: (exprW gd ++ [(3, [93])])) ++ W3 = W2 := ⟨_, rfl⟩
  have q2 : ∀ c2, Ahd c2 W2 → ∃ d, Ahd d W3 ∧ tG c2 = (d, gd) := by
    intro c2 h2
    rw [← hW2] at h2
    unfold tG
    by_cases ht : gd = []
    · subst ht
      simp only [if_true, List.nil_append] at h2
      have hn : c2.is 3 [91] = false := by
        rw [← hW3, ← hW4] at h2
        by_cases ha : ac = []
        · by_cases ht : tg = []
          · simp only [if_pos ha, if_pos ht, List.nil_append, List.cons_append] at h2
            exact h2.isnt (by decide)
          · simp only [if_pos ha, if_neg ht, List.nil_append, List.cons_append] at h2
            exact h2.isnt (by decide)
        · simp only [if_neg ha, List.cons_append] at h2
          exact h2.isnt (by decide)
      rw [hn, if_neg (by decide)]
      exact ⟨c2, h2, rfl⟩
    · simp only [if_neg ht, List.cons_append, List.append_assoc, List.nil_append] at h2
      obtain ⟨_, _, _, h5, _⟩ := h2.cons
      obtain ⟨d, d1, d2⟩ := readP_ahd (p3.resolve_left ht) h5 (Stp.no (by decide) 1 _)
      obtain ⟨_, _, _, h6, _⟩ := d1.cons
      rw [if_pos (by rw [h2.is]; decide), d2]
      simp only
      rw [d1.want]
      exact ⟨_, h6, rfl⟩
  rw [hW2] at hc
  have q1 : ∃ d, Ahd d W2 ∧ tE c = (d, ev) := by
    unfold tE
    by_cases ht : ev = []
    · subst ht
      simp only [if_true, List.cons_append, List.nil_append] at hc
      obtain ⟨_, _, _, h5, _⟩ := hc.cons
      rw [if_pos (by rw [hc.is]; decide)]
      exact ⟨_, h5, rfl⟩
    · simp only [if_neg ht, List.cons_append, List.nil_append] at hc
      obtain ⟨_, _, _, h5, _⟩ := hc.cons
      obtain ⟨_, _, _, h6, _⟩ := h5.cons
      rw [hc.isnt (by decide), if_neg (by decide), hc.want, h5.name (p1.resolve_left ht)]
      exact ⟨_, h6, rfl⟩
  obtain ⟨c2, a2, e2⟩ := q1
  obtain ⟨c3, a3, e3⟩ := q2 c2 a2
  obtain ⟨c4, a4, e4⟩ := q3 c3 a3
  obtain ⟨c5, a5, e5⟩ := q4 c4 a4
  obtain ⟨_, _, _, a6, _⟩ := a5.cons
  refine ⟨c5.on, a6, ?_⟩
  unfold readT
  simp only [e2, e3, e4, e5, a5.want, if_pos a6.1]
end Go.Proofs.YtckonoejmjblfaaGreatDoor.Ev

/- Layer 8: which acts may be. -/
set_option linter.unusedVariables false
set_option linter.unusedSimpArgs false
set_option maxRecDepth 100000
set_option maxHeartbeats 2000000
namespace Go.Proofs.YtckonoejmjblfaaGreatDoor.Ev
open Go Go.RowKit
/-! Transitions. -/
theorem named_ev (s : List UInt8) (hs : s.length ≤ 9223372036854775807) : Gives 159 [T s] (V.bool (named s)) := by
  unfold named
  refine .intro Tryz.func159 (by kernel_rfl) ((nIs_all s hs).imp fun k h ro gl => ?_)
  by_cases h0 : s = []
  · subst h0
    simp -implicitDefEqProofs [Tryz.f159]
  · simp -implicitDefEqProofs [Tryz.f159, h, h0]
theorem TCheck_ev (t : Tn) (h : t.Ok) : Gives 106 [t.w] (V.int .i64 (checkT t)) := by
  have h1 := named_ev t.event h.event
  have h2 := named_ev t.target h.target
  have h3 := Check_ev t.guard h.names h.len
  have h4 := ACheck_ev t.acts h.alen h.acts
  obtain ⟨ev', gd, ac, tg⟩ := t
  unfold checkT
  simp only at h1 h2 h3 h4 ⊢
  refine .intro Tryz.func106 (by kernel_rfl) ((h1.and (h2.and (h3.and h4))).imp fun k ⟨h1, h2, h3, h4⟩ ro gl => ?_)
  generalize checkA ac = ca at h4 ⊢
  generalize checkV gd = cv at h3 ⊢
  generalize named tg = n2 at h2 ⊢
  generalize named ev' = n1 at h1 ⊢
  cases n1 with
  | false => simp -implicitDefEqProofs [Tryz.f106, Tn.w, h1]
  | true =>
    cases n2 with
    | false => simp -implicitDefEqProofs [Tryz.f106, Tn.w, h1, h2]
    | true =>
      by_cases hg : gd = []
      · subst hg
        simp -implicitDefEqProofs [Tryz.f106, Tn.w, h1, h2, h4]
      · have hg' : 0 < gd.length := List.length_pos_iff.2 hg
        by_cases hv : cv = 0
        · subst hv
          simp -implicitDefEqProofs [Tryz.f106, Tn.w, h1, h2, h3, h4, hg, hg']
        · simp -implicitDefEqProofs [Tryz.f106, Tn.w, h1, h2, h3, hg, hg', hv]
theorem rTCheck_ev (t : Tn) (h : t.Ok) : Gives 45 [t.w] (V.int .i64 (checkT t)) := by
  have h1 := rIs_all t.event h.event
  have h2 := rIs_all t.target h.target
  have h3 := rCheck_ev t.guard h.names h.len
  have h4 := rACheck_ev t.acts h.alen h.acts
  obtain ⟨ev', gd, ac, tg⟩ := t
  unfold checkT named
  simp only at h1 h2 h3 h4 ⊢
  refine .intro Tryz.func45 (by kernel_rfl) ((h1.and (h2.and (h3.and h4))).imp fun k ⟨h1, h2, h3, h4⟩ ro gl => ?_)
  generalize checkA ac = ca at h4 ⊢
  generalize checkV gd = cv at h3 ⊢
  generalize isName tg = n2 at h2 ⊢
  generalize isName ev' = n1 at h1 ⊢
  by_cases he : ev' = []
  · subst he
    by_cases ht : tg = []
    · subst ht
      by_cases hg : gd = []
      · subst hg
        simp -implicitDefEqProofs [Tryz.f45, Tn.w, h4]
      · have hg' : 0 < gd.length := List.length_pos_iff.2 hg
        by_cases hv : cv = 0
        · subst hv
          simp -implicitDefEqProofs [Tryz.f45, Tn.w, h3, h4, hg, hg']
        · simp -implicitDefEqProofs [Tryz.f45, Tn.w, h3, hg, hg', hv]
    · have ht' : 0 < tg.length := List.length_pos_iff.2 ht
      cases n2 with
      | false => simp -implicitDefEqProofs [Tryz.f45, Tn.w, h2, ht, ht']
      | true =>
        by_cases hg : gd = []
        · subst hg
          simp -implicitDefEqProofs [Tryz.f45, Tn.w, h2, h4, ht, ht']
        · have hg' : 0 < gd.length := List.length_pos_iff.2 hg
          by_cases hv : cv = 0
          · subst hv
            simp -implicitDefEqProofs [Tryz.f45, Tn.w, h2, h3, h4, ht, ht', hg, hg']
          · simp -implicitDefEqProofs [Tryz.f45, Tn.w, h2, h3, ht, ht', hg, hg', hv]
  · have he' : 0 < ev'.length := List.length_pos_iff.2 he
    cases n1 with
    | false => simp -implicitDefEqProofs [Tryz.f45, Tn.w, h1, he, he']
    | true =>
      by_cases ht : tg = []
      · subst ht
        by_cases hg : gd = []
        · subst hg
          simp -implicitDefEqProofs [Tryz.f45, Tn.w, h1, h4, he, he']
        · have hg' : 0 < gd.length := List.length_pos_iff.2 hg
          by_cases hv : cv = 0
          · subst hv
            simp -implicitDefEqProofs [Tryz.f45, Tn.w, h1, h3, h4, he, he', hg, hg']
          · simp -implicitDefEqProofs [Tryz.f45, Tn.w, h1, h3, he, he', hg, hg', hv]
      · have ht' : 0 < tg.length := List.length_pos_iff.2 ht
        cases n2 with
        | false => simp -implicitDefEqProofs [Tryz.f45, Tn.w, h1, h2, he, he', ht, ht']
        | true =>
          by_cases hg : gd = []
          · subst hg
            simp -implicitDefEqProofs [Tryz.f45, Tn.w, h1, h2, h4, he, he', ht, ht']
          · have hg' : 0 < gd.length := List.length_pos_iff.2 hg
            by_cases hv : cv = 0
            · subst hv
              simp -implicitDefEqProofs [Tryz.f45, Tn.w, h1, h2, h3, h4, he, he', ht, ht', hg, hg']
            · simp -implicitDefEqProofs [Tryz.f45, Tn.w, h1, h2, h3, he, he', ht, ht', hg, hg', hv]
end Go.Proofs.YtckonoejmjblfaaGreatDoor.Ev

/- Layer 8: acts' texts. -/
set_option linter.unusedVariables false
set_option linter.unusedSimpArgs false
set_option maxRecDepth 100000
set_option maxHeartbeats 2000000
namespace Go.Proofs.YtckonoejmjblfaaGreatDoor.Ev
open Go Go.RowKit
end Go.Proofs.YtckonoejmjblfaaGreatDoor.Ev
