/- Layer 6: the program's expressions of a level at least. -/
import Derived.Test.YtkklkkppedociaaGreatDoorPkExpC
set_option linter.unusedVariables false
set_option linter.unusedSimpArgs false
set_option maxRecDepth 100000
set_option maxHeartbeats 4000000
namespace Go.Proofs.YtkklkkppedociaaGreatDoor.Ev
open Go Go.RowKit

/-- What begins an expression, and its level. -/
def fstP (rec : Nat → Cu → Cu × List Tm) (least : Nat) (c : Cu) : (Cu × List Tm) × Nat :=
  if c.e ≠ 0 then ((c, []), 8)
  else if least ≤ 3 ∧ c.is 1 bNot then (((rec 3 c.on).1, over 12 (rec 3 c.on).2 []), 3)
  else if c.is 3 [45] then (((rec 7 c.on).1, over 3 (rec 7 c.on).2 []), 7)
  else (atomP rec c, 8)
section
variable {rec : Nat → Cu → Cu × List Tm} (hfine : ∀ k c, Fine (rec k c) c) {n : Nat} (hrec : RdF 31 rec n)
include hfine hrec
theorem first_ev {c : Cu} (hk : c.Ok) (hn : c.r.length < n + 1) (hN : n < 100000) (least : Nat) : DoesU 65 (fun o => [rdr o, I least]) c.w (.tup [L ((fstP rec least c).1.2.map Tm.c), I (fstP rec least c).2]) (fstP rec least c).1.1.w := by
  unfold fstP
  have hlv := fun (x : Int) => (level_ev.imp fun k h => h x)
  have l12 := hlv 12
  have l3 := hlv 3
  have l0 := hlv 0
  rw [show levelI 12 = 3 from rfl] at l12
  rw [show levelI 3 = 7 from rfl] at l3
  rw [show levelI 0 = 8 from rfl] at l0
  have hl3 : ((least : Int) ≤ 3) = (least ≤ 3) := by simp only [eq_iff_iff]; omega
  by_cases he : c.e = 0
  rotate_left
  · rw [if_pos he]
    have f : ∀ k t, ¬ c.is k t = true := fun k t h => by
      simp only [Cu.is, Bool.and_eq_true, decide_eq_true_eq] at h
      exact he h.1
    refine .intro Tryz.func65 (by kernel_rfl) ((l12.and (l0.and ((take_no' hk 1 bNot (f _ _)).and ((take_no' hk 3 [45] (f _ _)).and (pAtom_bad hk he))))).imp fun k ⟨h1, h2, h3, h4, h5⟩ gl o ro hg hro => ?_)
    have h3 := h3 gl o ro hg hro
    have h4 := h4 gl o ro hg hro
    have h5 := h5 gl o ro hg hro
    by_cases hl : least ≤ 3
    · simp -implicitDefEqProofs [Tryz.f65, h1, h2, h3, h4, h5, hl3, hl]
    · simp -implicitDefEqProofs [Tryz.f65, h1, h2, h3, h4, h5, hl3, hl]
  · rw [if_neg (by simp [he])]
    by_cases hnot : c.is 1 bNot = true
    · obtain ⟨_, hr⟩ := Cu.is_real hnot (by simp)
      obtain ⟨a1, a2⟩ := hfine 3 c.on
      have hj := join_ev 12 [(rec 3 c.on).2] (by simp) (by simp; omega)
      have hov : (⟨12, 0, []⟩ :: [(rec 3 c.on).2].flatten : List Tm) = over 12 (rec 3 c.on).2 [] := by simp [over]
      rw [hov] at hj
      by_cases hl : least ≤ 3
      · rw [if_pos ⟨hl, hnot⟩]
        refine .intro Tryz.func65 (by kernel_rfl) ((l12.and ((take_yes hk 1 bNot hnot).and ((hrec c.on hk.on (by omega) 3 (by omega) (by omega)).and hj))).imp fun k ⟨h1, h3, h4, h5⟩ gl o ro hg hro => ?_)
        have h3 := h3 gl o ro hg hro
        have h4 := h4 _ o ro (get_set hg _) hro
        simp only [List.set_set] at h4
        generalize over 12 (rec 3 c.on).2 [] = ov at h5 ⊢
        generalize rec 3 c.on = q at h4 h5 ⊢
        obtain ⟨d, x⟩ := q
        simp only at h4 h5 ⊢
        simp at h4 h5
        simp -implicitDefEqProofs [Tryz.f65, h1, h3, h4, h5, hl3, hl]
      · rw [if_neg (fun h => hl h.1)]
        have hneg : ¬ c.is 3 [45] = true := isF (fun h => by
          simp only [Cu.is, Bool.and_eq_true, decide_eq_true_eq] at hnot
          rw [hnot.2.1] at h
          exact absurd h.1 (by decide))
        rw [if_neg hneg]
        refine .intro Tryz.func65 (by kernel_rfl) ((l12.and (l0.and ((take_no' hk 3 [45] hneg).and (pAtom_ev hfine hrec hk he hn hN)))).imp fun k ⟨h1, h2, h4, h5⟩ gl o ro hg hro => ?_)
        have h4 := h4 gl o ro hg hro
        have h5 := h5 gl o ro hg hro
        generalize atomP rec c = q at h5 ⊢
        obtain ⟨d, x⟩ := q
        simp only at h5 ⊢
        simp -implicitDefEqProofs [Tryz.f65, h1, h2, h4, h5, hl3, hl]
    · rw [if_neg (fun h => hnot h.2)]
      by_cases hneg : c.is 3 [45] = true
      · rw [if_pos hneg]
        obtain ⟨_, hr⟩ := Cu.is_real hneg (by simp)
        obtain ⟨a1, a2⟩ := hfine 7 c.on
        have hj := join_ev 3 [(rec 7 c.on).2] (by simp) (by simp; omega)
        have hov : (⟨3, 0, []⟩ :: [(rec 7 c.on).2].flatten : List Tm) = over 3 (rec 7 c.on).2 [] := by simp [over]
        rw [hov] at hj
        refine .intro Tryz.func65 (by kernel_rfl) ((l12.and (l3.and ((take_no' hk 1 bNot hnot).and ((take_yes hk 3 [45] hneg).and ((hrec c.on hk.on (by omega) 7 (by omega) (by omega)).and hj))))).imp fun k ⟨h1, h2, h3, h4, h5, h6⟩ gl o ro hg hro => ?_)
        have h3 := h3 gl o ro hg hro
        have h4 := h4 gl o ro hg hro
        have h5 := h5 _ o ro (get_set hg _) hro
        simp only [List.set_set] at h5
        generalize over 3 (rec 7 c.on).2 [] = ov at h6 ⊢
        generalize rec 7 c.on = q at h5 h6 ⊢
        obtain ⟨d, x⟩ := q
        simp only at h5 h6 ⊢
        simp at h5 h6
        by_cases hl : least ≤ 3
        · simp -implicitDefEqProofs [Tryz.f65, h1, h2, h3, h4, h5, h6, hl3, hl]
        · simp -implicitDefEqProofs [Tryz.f65, h1, h2, h3, h4, h5, h6, hl3, hl]
      · rw [if_neg hneg]
        refine .intro Tryz.func65 (by kernel_rfl) ((l12.and (l0.and ((take_no' hk 1 bNot hnot).and ((take_no' hk 3 [45] hneg).and (pAtom_ev hfine hrec hk he hn hN))))).imp fun k ⟨h1, h2, h3, h4, h5⟩ gl o ro hg hro => ?_)
        have h3 := h3 gl o ro hg hro
        have h4 := h4 gl o ro hg hro
        have h5 := h5 gl o ro hg hro
        generalize atomP rec c = q at h5 ⊢
        obtain ⟨d, x⟩ := q
        simp only at h5 ⊢
        by_cases hl : least ≤ 3
        · simp -implicitDefEqProofs [Tryz.f65, h1, h2, h3, h4, h5, hl3, hl]
        · simp -implicitDefEqProofs [Tryz.f65, h1, h2, h3, h4, h5, hl3, hl]
end
end Go.Proofs.YtkklkkppedociaaGreatDoor.Ev

/- Layer 6: the program's expressions are the document's. -/
set_option linter.unusedVariables false
set_option linter.unusedSimpArgs false
set_option maxRecDepth 100000
set_option maxHeartbeats 4000000
namespace Go.Proofs.YtkklkkppedociaaGreatDoor.Ev
open Go Go.RowKit

def topL (now : Nat) : Nat := if now = 4 then 3 else now
abbrev fK : List Nat := [1, 2, 5, 6]
def frS (least : Nat) (l : List Tm) (now : Nat) (o : Nat) (gl : List (List W)) (ro : Nat) : St :=
  st 56 [(1, V.int .i64 least), (2, .c (.w (.box 2 0))), (5, .c (L (l.map Tm.c))), (6, V.int .i64 now)] [(2, [.glo o 0])] [] gl ro
/-- When the loop is over. -/
theorem fr_out {c : Cu} (hk : c.Ok) (least now : Nat) (l : List Tm) (h : c.e = 0 → btw c.next ≠ 0 → levelI (btw c.next) < least ∨ (now : Int) < leftI (btw c.next)) : Evt fun K => ∀ gl o ro, (gl : List (List W))[o]? = some c.w → ro ≤ o → ∀ N n S, S.hav fK = frS least l now o gl ro →
    loopA (evC Tryz.prog cf 31 (ev K) N (bodyOf Tryz.f31 0)) fK [] (n + 1) S = some (.exit 0, frS least l now o gl ro) := by
  refine ((good_c (c := c)).and ((between_ev hk).and (level_ev.and left_ev))).imp fun K ⟨h1, h2, h3, h4⟩ gl o ro hg hro N n S hS => ?_
  have h1 := fun ro => h1 gl o ro hg
  have h2 := fun ro => h2 gl o ro hg
  have h3 := h3 (btw c.next)
  have h4 := h4 (btw c.next)
  refine loop_exit ?_
  rw [hS]
  by_cases he : c.e = 0
  · by_cases hb : btw c.next = 0
    · rw [hb] at h2
      simp [he] at h1
      simp -implicitDefEqProofs [frS, bodyOf, loopsOf, hv, Tryz.f31, h1, h2]
    · simp [he] at h1
      by_cases hl : levelI (btw c.next) < least
      · simp -implicitDefEqProofs [frS, bodyOf, loopsOf, hv, Tryz.f31, h1, h2, h3, hb, hl]
      · have hn : (now : Int) < leftI (btw c.next) := (h he hb).resolve_left hl
        simp -implicitDefEqProofs [frS, bodyOf, loopsOf, hv, Tryz.f31, h1, h2, h3, h4, hb, hl, hn]
  · simp [he] at h1
    simp -implicitDefEqProofs [frS, bodyOf, loopsOf, hv, Tryz.f31, h1]
section
variable {rec : Nat → Cu → Cu × List Tm} (hfine : ∀ k c, Fine (rec k c) c) {n : Nat} (hrec : RdF 31 rec n)
include hfine hrec
/-- A round that goes on. -/
theorem fr_on {c : Cu} (hk : c.Ok) (hn : c.r.length < n + 1) (he : c.e = 0) (hb : btw c.next ≠ 0) (p : Nat) (hp : levelI (btw c.next) = p) (hp1 : 1 ≤ p) (hp6 : p ≤ 6) (least now : Nat) (hle : least ≤ p) (hnow : ¬ (now : Int) < leftI (btw c.next)) (l : List Tm) (hl : l.length + 2 * c.r.length < 300000) : Evt fun K => ∀ gl o ro, (gl : List (List W))[o]? = some c.w → ro ≤ o → ∀ N,
    (evC Tryz.prog cf 31 (ev K) N (bodyOf Tryz.f31 0) (frS least l now o gl ro)).map (hv fK) = some (.normal, frS least (over (btw c.next) l (rec (p + 1) c.on).2) p o (gl.set o (rec (p + 1) c.on).1.w) ro) := by
  obtain ⟨_, hr⟩ := Cu.next_real (c := c) (.inl (btw_real hb))
  obtain ⟨f1, f2⟩ := hfine (p + 1) c.on
  have hj := join_ev (btw c.next) [l, (rec (p + 1) c.on).2] (by simp) (by simp; omega)
  have hov : (⟨btw c.next, 0, []⟩ :: [l, (rec (p + 1) c.on).2].flatten : List Tm) = over (btw c.next) l (rec (p + 1) c.on).2 := by simp [over]
  rw [hov] at hj
  have hli : ¬ levelI (btw c.next) < least := by omega
  refine ((good_c (c := c)).and ((between_ev hk).and (level_ev.and (left_ev.and ((next_c hk).and ((take_yes hk c.next.kind c.next.text (isT he rfl rfl)).and ((hrec c.on hk.on (by omega) (p + 1) (by omega) (by omega)).and hj))))))).imp fun K ⟨h1, h2, h3, h4, h5, h6, h7, h8⟩ gl o ro hg hro N => ?_
  have h1 := fun ro => h1 gl o ro hg
  have h2 := fun ro => h2 gl o ro hg
  have h3 := h3 (btw c.next)
  have h4 := h4 (btw c.next)
  have h5 := fun ro => h5 gl o ro hg
  have h6 := h6 gl o ro hg hro
  have h7 := h7 _ o ro (get_set hg _) hro
  simp only [List.set_set] at h7
  rw [hp] at h3 hli
  have w : IntKind.i64.wrap ((p : Int) + 1) = (p : Int) + 1 := i64w _ (by omega)
  generalize over (btw c.next) l (rec (p + 1) c.on).2 = ov at h8 ⊢
  generalize rec (p + 1) c.on = q at h7 h8 ⊢
  obtain ⟨d, x⟩ := q
  simp only at h7 h8 ⊢
  generalize c.on.w = cw at h6 h7
  simp [Tk.w, he] at h1 h5 h7 h8
  simp -implicitDefEqProofs [frS, bodyOf, loopsOf, hv, Tryz.f31, h1, h2, h3, h4, h5, h6, h7, h8, hb, hli, hnow, w]
theorem fr_loop (least : Nat) (hls : 0 < least) : ∀ (m : Nat) (c : Cu) (now : Nat) (l : List Tm), c.Ok → c.r.length < m → c.r.length < n + 1 → 1 ≤ now → now ≤ 8 → l.length + 2 * c.r.length < 300000 → Evt fun K => ∀ gl o ro, (gl : List (List W))[o]? = some c.w → ro ≤ o → ∀ N S, m ≤ N → S.hav fK = frS least l now o gl ro → ∃ now' : Nat, True ∧
    loopA (evC Tryz.prog cf 31 (ev K) K (bodyOf Tryz.f31 0)) fK [] N S = some (.exit 0, frS least (hP rec (n + 1) least (topL now) c l).2 now' o (gl.set o (hP rec (n + 1) least (topL now) c l).1.w) ro)
  | 0, c, now, l, _, h, _, _, _, _ => by omega
  | m + 1, c, now, l, hk, hm, hn, n1, n8, hl => by
    by_cases hout : c.e = 0 → btw c.next ≠ 0 → levelI (btw c.next) < least ∨ (now : Int) < leftI (btw c.next)
    · refine (fr_out hk least now l hout).imp fun K q gl o ro hg hro N S hN hS => ⟨now, trivial, ?_⟩
      obtain ⟨N, rfl⟩ : ∃ x, N = x + 1 := ⟨N - 1, by omega⟩
      have : hP rec (n + 1) least (topL now) c l = (c, l) := by
        refine hP_stop _ _ _ fun h1 h2 => ?_
        rcases hout h1 h2 with h | h
        · exact .inl h
        · refine .inr ?_
          unfold leftI at h
          unfold topL
          split at h
          · rename_i h4
            rw [h4]
            split <;> omega
          · rcases btw_level h2 with h5 | h5 | h5 | h5 | h5 <;> rw [h5] at h ⊢ <;> split <;> omega
      rw [this, set_same hg]
      exact q gl o ro hg hro K N S hS
    · have he : c.e = 0 := Classical.byContradiction fun h => hout fun h' => absurd h' h
      have hb : btw c.next ≠ 0 := Classical.byContradiction fun h => hout fun _ h' => absurd h' h
      have h3 : ¬ levelI (btw c.next) < least := fun h => hout fun _ _ => .inl h
      have h4 : ¬ (now : Int) < leftI (btw c.next) := fun h => hout fun _ _ => .inr h
      obtain ⟨p, hp, hp1, hp6⟩ : ∃ p : Nat, levelI (btw c.next) = p ∧ 1 ≤ p ∧ p ≤ 6 := by
        rcases btw_level hb with h5 | h5 | h5 | h5 | h5
        · exact ⟨1, h5, by omega, by omega⟩
        · exact ⟨2, h5, by omega, by omega⟩
        · exact ⟨4, h5, by omega, by omega⟩
        · exact ⟨5, h5, by omega, by omega⟩
        · exact ⟨6, h5, by omega, by omega⟩
      have hle : least ≤ p := by rw [hp] at h3; omega
      have hpt : p ≤ topL now := by
        unfold leftI at h4
        rw [hp] at h4
        unfold topL
        split at h4
        · split <;> omega
        · rename_i h5
          have h6 : p = 1 ∨ p = 2 ∨ p = 5 ∨ p = 6 := by
            rcases btw_level hb with h7 | h7 | h7 | h7 | h7 <;> rw [hp] at h7 <;> omega
          split <;> omega
      obtain ⟨_, hr⟩ := Cu.next_real (c := c) (.inl (btw_real hb))
      obtain ⟨f1, f2⟩ := hfine (p + 1) c.on
      have fr := f1.2
      have hstep : hP rec (n + 1) least (topL now) c l = hP rec (n + 1) least (topL p) (rec (p + 1) c.on).1 (over (btw c.next) l (rec (p + 1) c.on).2) := hP_step hfine hls (topL now) c l p he hb hp hle hpt hn
      rw [hstep]
      have ih := fr_loop least hls m (rec (p + 1) c.on).1 p (over (btw c.next) l (rec (p + 1) c.on).2) (f1.1 hk.on) (by omega) (by omega) hp1 (by omega) (by rw [over_len]; omega)
      refine ((fr_on hfine hrec hk hn he hb p hp hp1 hp6 least now hle h4 l hl).and ih).imp fun K ⟨q1, q2⟩ gl o ro hg hro N S hN hS => ?_
      obtain ⟨N, rfl⟩ : ∃ x, N = x + 1 := ⟨N - 1, by omega⟩
      have r1 := q1 gl o ro hg hro K
      rw [← hS] at r1
      obtain ⟨S', hS', e⟩ := loop_on r1
      obtain ⟨now', _, h⟩ := q2 _ o ro (get_set hg _) hro N S' (by omega) hS'
      rw [List.set_set] at h
      exact ⟨now', trivial, by rw [e, h]⟩
omit hfine hrec in
theorem hP_skip (N least q : Nat) (hq : q + 1 = 3 ∨ q + 1 = 7 ∨ q + 1 = 8) (c : Cu) (l : List Tm) : hP rec N least (q + 1) c l = hP rec N least q c l := by
  rw [hP]
  split
  · rw [hP_low (by omega)]
  · have : lpP rec (q + 1) N c l = (c, l) := by
      cases N with
      | zero => rfl
      | succ N =>
        rw [lpP, if_neg]
        rintro ⟨_, h2, h3⟩
        rcases btw_level h2 with h5 | h5 | h5 | h5 | h5 <;> rw [h5] at h3 <;> omega
    rw [this]
omit hfine hrec in
theorem fst_lv {c : Cu} (he : c.e = 0) (least : Nat) (h1 : 1 ≤ least) (h7 : least ≤ 7) : hP rec (n + 1) least (topL (fstP rec least c).2) (fstP rec least c).1.1 (fstP rec least c).1.2 = lvP rec (n + 1) (8 - least) c := by
  rw [lvP_eq (n + 1) c he (8 - least) (by omega), show 8 - (8 - least) = least by omega]
  unfold fstP
  rw [if_neg (by simp [he])]
  by_cases hn : least ≤ 3 ∧ c.is 1 bNot = true
  · rw [if_pos hn, if_pos hn]
    exact hP_skip _ _ _ (.inl rfl) _ _
  · rw [if_neg hn, if_neg hn]
    by_cases hm : c.is 3 [45] = true
    · rw [if_pos hm, if_pos ⟨h7, hm⟩]
      exact hP_skip _ _ _ (.inr (.inl rfl)) _ _
    · rw [if_neg hm, if_neg (fun h => hm h.2)]
      exact hP_skip _ _ _ (.inr (.inr rfl)) _ _
omit hfine hrec in
theorem fst_now {c : Cu} (least : Nat) : 1 ≤ (fstP rec least c).2 ∧ (fstP rec least c).2 ≤ 8 := by
  unfold fstP
  split
  · simp
  · split
    · simp
    · split <;> simp
omit hrec in
theorem fst_fine {c : Cu} (least : Nat) : Fine (fstP rec least c).1 c := by
  unfold fstP
  split
  · exact ⟨.refl c, by simp⟩
  · rename_i he
    split
    · rename_i h
      obtain ⟨_, hr⟩ := Cu.is_real h.2 (by simp)
      obtain ⟨a1, a2⟩ := hfine 3 c.on
      exact ⟨a1.trans c.on_le, by simp only [over_len, List.length_nil]; omega⟩
    · split
      · rename_i h
        obtain ⟨_, hr⟩ := Cu.is_real h (by simp)
        obtain ⟨a1, a2⟩ := hfine 7 c.on
        exact ⟨a1.trans c.on_le, by simp only [over_len, List.length_nil]; omega⟩
      · exact atomP_fine hfine (by simpa using he)
theorem from_step {c : Cu} (hk : c.Ok) (hn : c.r.length < n + 1) (hN : n < 100000) (least : Nat) (h1 : 1 ≤ least) (h7 : least ≤ 7) : DoesU 31 (fun o => [rdr o, I least]) c.w (.c (L ((lvP rec (n + 1) (8 - least) c).2.map Tm.c))) (lvP rec (n + 1) (8 - least) c).1.w := by
  obtain ⟨g1, g2⟩ := fst_fine hfine (c := c) least
  have gr := g1.2
  obtain ⟨m1, m2⟩ := fst_now (rec := rec) (c := c) least
  have hlp := fr_loop hfine hrec least h1 (n + 1) (fstP rec least c).1.1 (fstP rec least c).2 (fstP rec least c).1.2 (g1.1 hk) (by omega) (by omega) m1 m2 (by omega)
  have hval : hP rec (n + 1) least (topL (fstP rec least c).2) (fstP rec least c).1.1 (fstP rec least c).1.2 = lvP rec (n + 1) (8 - least) c := by
    by_cases he : c.e = 0
    · exact fst_lv he least h1 h7
    · have e1 : fstP rec least c = ((c, []), 8) := by unfold fstP; rw [if_pos he]
      have e2 : lvP rec (n + 1) (8 - least) c = (c, []) := by
        generalize 8 - least = j
        cases j <;> (rw [lvP, if_pos he])
      rw [e1, e2]
      exact hP_stop _ _ _ fun h => absurd h he
  rw [hval] at hlp
  refine .intro Tryz.func31 (by kernel_rfl) (((first_ev hfine hrec hk hn hN least).and (hlp.and (Evt.ge (n + 1)))).imp fun K ⟨q1, q2, hK⟩ gl o ro hg hro => ?_)
  have q1 := q1 gl o ro hg hro
  have tail : ∀ S : St, S.hav fK = frS least (fstP rec least c).1.2 (fstP rec least c).2 o (gl.set o (fstP rec least c).1.1.w) ro → ∃ now' : Nat, True ∧ loopC Tryz.prog cf 31 (ev K) K (bodyOf Tryz.f31 0) S = _ := fun S hS => q2 _ o ro (get_set hg _) hro K S (by omega) hS
  simp only [List.set_set] at tail
  clear hlp hval q2 g1 g2 gr m1 m2 hfine hrec
  generalize fstP rec least c = q at q1 tail
  obtain ⟨⟨d, x⟩, now⟩ := q
  simp only at q1 tail
  generalize lvP rec (n + 1) (8 - least) c = r at tail ⊢
  obtain ⟨d', x'⟩ := r
  simp only at tail ⊢
  simp -implicitDefEqProofs [Tryz.f31, q1]
  refine bind_ex2 (tail _ ?_) fun b _ => ?_
  · simp [frS]
  · simp [frS]
end
/-- The program's answer of a level. -/
theorem from_ev : ∀ (n : Nat), n < 100000 → RdF 31 (lvN n) n
  | 0, _ => fun d _ h _ _ _ => by omega
  | n + 1, hN => fun d hd hn k k1 k7 => from_step (lvN_fine n) (from_ev n (by omega)) hd hn (by omega) k k1 k7
end Go.Proofs.YtkklkkppedociaaGreatDoor.Ev
