/- Layer 6: an expression of the last level, as the document reads it. -/
import Derived.Test.YtckonoejmjblfaaGreatDoorPkExpA
import Derived.Test.YtckonoejmjblfaaGreatDoorPkTrmC
set_option linter.unusedVariables false
set_option linter.unusedSimpArgs false
set_option maxRecDepth 100000
set_option maxHeartbeats 4000000
namespace Go.Proofs.YtckonoejmjblfaaGreatDoor.Ev
open Go Go.RowKit

theorem rMark_c {c : Cu} (hk : c.Ok) (t : List UInt8) : Gives 169 [c.ref, T t] (.c (c.want 3 t).ref) := by
  refine .intro Tryz.func169 (by kernel_rfl) ((rWant_c hk 3 t).imp fun k h ro gl => ?_)
  simp [Cu.ref, cR] at h
  simp -implicitDefEqProofs [Tryz.f169, Cu.ref, cR, h]
/-- What the document's reader answers. -/
def resR (x : Cu × List Tm) : V := .tup [x.1.ref, L (x.2.map Tm.c)]
section
variable {rec : Nat → Cu → Cu × List Tm} (hfine : ∀ k c, Fine (rec k c) c) {n : Nat} (hrec : ∀ d : Cu, d.Ok → d.r.length < n → ∀ k : Nat, 1 ≤ k → k ≤ 8 → Gives 289 [d.ref, I k] (resR (rec k d)))
include hfine hrec -- 289
theorem rAtom_ev {c : Cu} (hk : c.Ok) (he : c.e = 0) (hn : c.r.length < n + 1) (hN : n < 100000) : Gives 296 [c.ref] (resR (atomP rec c)) := by
  unfold atomP
  by_cases k2 : c.next.kind = 2
  · rw [if_pos k2]
    refine .intro Tryz.func296 (by kernel_rfl) (((rNext_c (c := c)).and (rNumber_c hk 1000000)).imp fun k ⟨h1, h2⟩ ro gl => ?_)
    generalize c.number 1000000 = q at h2 ⊢
    obtain ⟨d, x⟩ := q
    simp [Cu.ref, cR, Tk.w, k2] at h1 h2
    simp -implicitDefEqProofs [Tryz.f296, Cu.ref, cR, resR, Tm.c, h1, h2]
  · rw [if_neg k2]
    by_cases kp : c.is 3 [40] = true
    · rw [if_pos kp]
      obtain ⟨_, hr⟩ := Cu.is_real kp (by simp)
      obtain ⟨f1, f2⟩ := hfine 1 c.on
      refine .intro Tryz.func296 (by kernel_rfl) (((rNext_c (c := c)).and ((rTake_c hk 3 [40]).and ((hrec c.on hk.on (by omega) 1 (by omega) (by omega)).and (rMark_c (f1.1 hk.on) [41])))).imp fun k ⟨h1, h2, h3, h4⟩ ro gl => ?_)
      rw [Cu.take, if_pos kp, kp] at h2
      generalize rec 1 c.on = q at h3 h4 ⊢
      obtain ⟨d, x⟩ := q
      simp only [resR] at h3 h4 ⊢
      generalize d.want 3 [41] = d' at h4 ⊢
      generalize c.on = c' at h2 h3
      simp [Cu.ref, cR, Tk.w] at h1 h2 h3 h4
      simp -implicitDefEqProofs [Tryz.f296, Cu.ref, cR, h1, h2, h3, h4, k2]
    · rw [if_neg kp]
      have hT := rTake_c hk 3 [40]
      rw [Cu.take, if_neg kp, show c.is 3 [40] = false by simpa using kp] at hT
      by_cases k1 : c.next.kind = 1
      rotate_left
      · rw [if_pos k1]
        refine .intro Tryz.func296 (by kernel_rfl) (((rNext_c (c := c)).and (hT.and (rFail_c (c := c) 2))).imp fun k ⟨h1, h2, h3⟩ ro gl => ?_)
        simp only [resR]
        generalize c.fail 2 = d at h3 ⊢
        simp [Cu.ref, cR, Tk.w] at h1 h2 h3
        simp -implicitDefEqProofs [Tryz.f296, Cu.ref, cR, h1, h2, h3, k1, k2]
      · rw [if_neg (by simp [k1])]
        obtain ⟨_, hr⟩ := Cu.next_real (c := c) (.inr (by rw [k1]; simp))
        have hO := rOn_c hk
        by_cases t1 : c.next.text = bTrue
        · rw [if_pos t1]
          refine .intro Tryz.func296 (by kernel_rfl) (((rNext_c (c := c)).and (hT.and hO)).imp fun k ⟨h1, h2, h3⟩ ro gl => ?_)
          simp only [resR]
          generalize c.on = d at h3 ⊢
          simp [Cu.ref, cR, Tk.w] at h1 h2 h3
          simp -implicitDefEqProofs [Tryz.f296, Cu.ref, cR, Tm.c, h1, h2, h3, k1, t1]
        · rw [if_neg t1]
          by_cases t2 : c.next.text = bFalse
          · rw [if_pos t2]
            refine .intro Tryz.func296 (by kernel_rfl) (((rNext_c (c := c)).and (hT.and hO)).imp fun k ⟨h1, h2, h3⟩ ro gl => ?_)
            simp only [resR]
            generalize c.on = d at h3 ⊢
            simp [Cu.ref, cR, Tk.w] at h1 h2 h3
            simp -implicitDefEqProofs [Tryz.f296, Cu.ref, cR, Tm.c, h1, h2, h3, k1, t2]
          · rw [if_neg t2]
            by_cases t3 : c.next.text = bIn
            · rw [if_pos t3]
              have w1 := c.on.want_le 3 [40]
              have w2 := (c.on.want 3 [40]).name_le
              refine .intro Tryz.func296 (by kernel_rfl) (((rNext_c (c := c)).and (hT.and (hO.and ((rMark_c hk.on [40]).and ((rName_c (w1.1 hk.on)).and (rMark_c (w2.1 (w1.1 hk.on)) [41])))))).imp fun k ⟨h1, h2, h3, h4, h5, h6⟩ ro gl => ?_)
              simp only [resR]
              generalize hd : c.on = d at *
              generalize hd2 : d.want 3 [40] = d2 at *
              generalize hd3 : d2.name = q at *
              obtain ⟨d3, x⟩ := q
              simp only at h6 ⊢
              generalize hd4 : d3.want 3 [41] = d4 at *
              simp [Cu.ref, cR, Tk.w] at h1 h2 h3 h4 h5 h6
              simp -implicitDefEqProofs [Tryz.f296, Cu.ref, cR, Tm.c, h1, h2, h3, h4, h5, h6, k1, t3]
            · rw [if_neg t3]
              have two : ∀ (op : Int) (tx : List UInt8), (op = 7 ∧ tx = bMin ∨ op = 8 ∧ tx = bMax) → c.next.text = tx → Gives 296 [c.ref] (resR (twoP rec op c.on)) := by
                intro op tx hop ht
                have w1 := c.on.want_le 3 [40]
                obtain ⟨a1, a2⟩ := hfine 1 (c.on.want 3 [40])
                have w2 := ((rec 1 (c.on.want 3 [40])).1.want_le 3 [44])
                obtain ⟨b1, b2⟩ := hfine 1 ((rec 1 (c.on.want 3 [40])).1.want 3 [44])
                have e1 := w1.2
                have e2 := a1.2
                have e3 := w2.2
                have o1 := w1.1 hk.on
                have o2 := a1.1 o1
                have o3 := w2.1 o2
                have o4 := b1.1 o3
                have hov := rOver_ev op (rec 1 (c.on.want 3 [40])).2 (rec 1 ((rec 1 (c.on.want 3 [40])).1.want 3 [44])).2 (by omega)
                refine .intro Tryz.func296 (by kernel_rfl) (((rNext_c (c := c)).and (hT.and (hO.and ((rMark_c hk.on [40]).and ((hrec _ o1 (by omega) 1 (by omega) (by omega)).and ((rMark_c o2 [44]).and ((hrec _ o3 (by omega) 1 (by omega) (by omega)).and ((rMark_c o4 [41]).and hov)))))))).imp fun k ⟨h1, h2, h3, h4, h5, h6, h7, h8, h9⟩ ro gl => ?_)
                simp only [resR, twoP] at *
                clear e1 e2 e3 a1 a2 b1 b2 w1 w2 hov hrec hfine hT hO
                generalize hd : c.on = d at *
                generalize hd2 : d.want 3 [40] = d2 at *
                generalize hd3 : rec 1 d2 = q at *
                obtain ⟨d3, x⟩ := q
                simp only at h6 h7 h8 h9 o2 o3 o4 ⊢
                generalize hd4 : d3.want 3 [44] = d4 at *
                generalize hd5 : rec 1 d4 = q2 at *
                obtain ⟨d5, y⟩ := q2
                simp only at h8 h9 ⊢
                generalize hd6 : d5.want 3 [41] = d6 at *
                generalize hov : over op x y = ov at *
                simp [Cu.ref, cR, Tk.w] at h1 h2 h3 h4 h5 h6 h7 h8 h9
                rcases hop with ⟨rfl, rfl⟩ | ⟨rfl, rfl⟩
                · simp -implicitDefEqProofs [Tryz.f296, Cu.ref, cR, h1, h2, h3, h4, h5, h6, h7, h8, h9, k1, ht]
                · simp -implicitDefEqProofs [Tryz.f296, Cu.ref, cR, h1, h2, h3, h4, h5, h6, h7, h8, h9, k1, ht]
              by_cases t4 : c.next.text = bMin
              · rw [if_pos t4]
                exact two 7 bMin (.inl ⟨rfl, rfl⟩) t4
              · rw [if_neg t4]
                by_cases t5 : c.next.text = bMax
                · rw [if_pos t5]
                  exact two 8 bMax (.inr ⟨rfl, rfl⟩) t5
                · rw [if_neg t5]
                  by_cases t6 : isName c.next.text = true
                  · rw [if_pos t6]
                    refine .intro Tryz.func296 (by kernel_rfl) (((rNext_c (c := c)).and (hT.and (hO.and (rIs_ev _ hk.next)))).imp fun k ⟨h1, h2, h3, h4⟩ ro gl => ?_)
                    simp only [resR]
                    generalize c.on = d at h3 ⊢
                    rw [t6] at h4
                    simp [Cu.ref, cR, Tk.w] at h1 h2 h3 h4
                    simp -implicitDefEqProofs [Tryz.f296, Cu.ref, cR, Tm.c, h1, h2, h3, h4, k1, t1, t2, t3, t4, t5]
                  · rw [if_neg t6]
                    refine .intro Tryz.func296 (by kernel_rfl) (((rNext_c (c := c)).and (hT.and ((rFail_c (c := c) 2).and (rIs_ev _ hk.next)))).imp fun k ⟨h1, h2, h3, h4⟩ ro gl => ?_)
                    simp only [resR]
                    generalize c.fail 2 = d at h3 ⊢
                    rw [show isName c.next.text = false by simpa using t6] at h4
                    simp [Cu.ref, cR, Tk.w] at h1 h2 h3 h4
                    simp -implicitDefEqProofs [Tryz.f296, Cu.ref, cR, Tm.c, h1, h2, h3, h4, k1, t1, t2, t3, t4, t5]
end
end Go.Proofs.YtckonoejmjblfaaGreatDoor.Ev

/- Layer 6: a level's expressions, as the document reads them: what stands between. -/
set_option linter.unusedVariables false
set_option linter.unusedSimpArgs false
set_option maxRecDepth 100000
set_option maxHeartbeats 4000000
namespace Go.Proofs.YtckonoejmjblfaaGreatDoor.Ev
open Go Go.RowKit

def Cu.cells (c : Cu) : List W := [.d (.sl (c.r.map Tk.c)), .d (.int .i64 (was c.p).ln), .d (.int .i64 (was c.p).cl), .d (.int .i64 c.ln), .d (.int .i64 c.cl), .d (.int .i64 c.e)]
abbrev zeroCu : List W := [.full [], .d (.int .i64 0), .d (.int .i64 0), .d (.int .i64 0), .d (.int .i64 0), .d (.int .i64 0)]
def rlS (k : Nat) (c : Cu) (l : List Tm) (more : Bool) (gl : List (List W)) (ro : Nat) : St :=
  st 114 [(1, V.int .i64 k), (2, .c (.w (.box 2 0))), (4, .c (.w (.box 4 0))), (10, .c (L (l.map Tm.c))), (11, .c (L ((signsB k).map sD))), (12, .c (L ((opsI k).map zD))), (13, V.bool more)] [(2, c.cells), (4, zeroCu)] [] gl ro
abbrev rlK : List Nat := [1, 2, 4, 10, 11, 12, 13]
theorem rl_out (call : Caller) (N k : Nat) (c : Cu) (l : List Tm) (more : Bool) (h : more = false ∨ c.e ≠ 0) (gl : List (List W)) (ro n : Nat) (S : St) (hS : S.hav rlK = rlS k c l more gl ro) :
    loopA (evC Tryz.prog cf 289 call N (bodyOf Tryz.f289 0)) rlK [] (n + 1) S = some (.exit 0, rlS k c l more gl ro) := by
  refine loop_exit ?_
  rw [hS]
  by_cases hm : more = false
  · subst hm
    simp -implicitDefEqProofs [rlS, Cu.cells, bodyOf, loopsOf, hv, Tryz.f289]
  · have he : c.e ≠ 0 := by
      rcases h with h | h
      · exact absurd h hm
      · exact h
    have hm : more = true := by simpa using hm
    subst hm
    simp -implicitDefEqProofs [rlS, Cu.cells, bodyOf, loopsOf, hv, Tryz.f289, he]
section
variable {rec : Nat → Cu → Cu × List Tm} (hfine : ∀ k c, Fine (rec k c) c) {n : Nat} (hrec : ∀ d : Cu, d.Ok → d.r.length < n → ∀ k : Nat, 1 ≤ k → k ≤ 8 → Gives 289 [d.ref, I k] (resR (rec k d)))
include hfine hrec -- 289
omit hfine hrec in -- 289
/-- A round in which no sign of the level is next. -/
theorem rl_no {c : Cu} (hk : c.Ok) (he : c.e = 0) {k : Nat} (k1 : 1 ≤ k) (k8 : k ≤ 8) (h : ¬ (btw c.next ≠ 0 ∧ levelI (btw c.next) = k)) (l : List Tm) : Evt fun K => ∀ N gl ro,
    (evC Tryz.prog cf 289 (ev K) N (bodyOf Tryz.f289 0) (rlS k c l true gl ro)).map (hv rlK) = some (.normal, rlS k c l false gl ro) := by
  have hlen : (signsB k).length < 4611686018427387904 := by
    rcases eight k1 k8 with h | h | h | h | h | h | h | h <;> subst h <;> decide
  refine ((rNext_c (c := c)).and (rPlace_ev (signsB k) c.next.text hlen)).imp fun K ⟨h1, h2⟩ N gl ro => ?_
  simp [Cu.ref, cR, Tk.w, he] at h1
  by_cases hkd : c.next.kind = 3 ∨ c.next.kind = 1
  · have hp := place_not hkd h
    generalize place (signsB k) c.next.text 0 = i at h2 hp
    simp -implicitDefEqProofs [rlS, Cu.cells, bodyOf, loopsOf, hv, Tryz.f289, he, h1, h2, hp]
  · simp only [not_or] at hkd
    generalize place (signsB k) c.next.text 0 = i at h2
    by_cases hp : 0 ≤ i
    · simp -implicitDefEqProofs [rlS, Cu.cells, bodyOf, loopsOf, hv, Tryz.f289, he, h1, h2, hp, hkd.1, hkd.2]
    · simp -implicitDefEqProofs [rlS, Cu.cells, bodyOf, loopsOf, hv, Tryz.f289, he, h1, h2, hp]
/-- A round in which one is. -/
theorem rl_yes {c : Cu} (hk : c.Ok) (hn : c.r.length < n + 1) {k : Nat} (k1 : 1 ≤ k) (k8 : k ≤ 7) (h : c.e = 0 ∧ btw c.next ≠ 0 ∧ levelI (btw c.next) = k) (l : List Tm) (hl : l.length + 2 * c.r.length < 300000) : Evt fun K => ∀ N gl ro,
    (evC Tryz.prog cf 289 (ev K) N (bodyOf Tryz.f289 0) (rlS k c l true gl ro)).map (hv rlK) = some (.normal, rlS k (rec (k + 1) c.on).1 (over (btw c.next) l (rec (k + 1) c.on).2) (decide (k ≠ 4)) gl ro) := by
  obtain ⟨he, hb, hlv⟩ := h
  have hlen : (signsB k).length < 4611686018427387904 := by
    rcases eight k1 (by omega : k ≤ 8) with h | h | h | h | h | h | h | h <;> subst h <;> decide
  obtain ⟨_, hr⟩ := Cu.next_real (c := c) (.inl (btw_real hb))
  obtain ⟨s1, s2, s3, hkd⟩ := btw_sign hb
  obtain ⟨j, hj1, hj2⟩ := place_btw hkd ⟨hb, hlv⟩
  obtain ⟨f1, f2⟩ := hfine (k + 1) c.on
  have hov := rOver_ev (btw c.next) l (rec (k + 1) c.on).2 (by omega)
  refine ((rNext_c (c := c)).and ((rPlace_ev (signsB k) c.next.text hlen).and ((rOn_c hk).and ((hrec c.on hk.on (by omega) (k + 1) (by omega) (by omega)).and hov)))).imp fun K ⟨h1, h2, h3, h4, h5⟩ N gl ro => ?_
  rw [hj1] at h2
  have hjl : j < (opsI k).length := (List.getElem?_eq_some_iff.1 hj2).1
  have hjl' : (j : Int) < (opsI k).length := by omega
  have hje : (opsI k)[j] = btw c.next := (List.getElem?_eq_some_iff.1 hj2).2
  have w : IntKind.i64.wrap ((k : Int) + 1) = (k : Int) + 1 := i64w _ (by omega)
  simp only [resR] at h4
  generalize rec (k + 1) c.on = q at h4 h5 ⊢
  obtain ⟨d, x⟩ := q
  simp only at h4 h5 ⊢
  generalize hop : btw c.next = op at h5 hje ⊢
  generalize over op l x = ov at h5 ⊢
  generalize c.on = c' at h3 h4
  have hkd' : c.next.kind = 3 ∨ ¬ c.next.kind = 3 ∧ c.next.kind = 1 := by
    rcases hkd with h | h
    · exact .inl h
    · exact .inr ⟨by rw [h]; decide, h⟩
  by_cases hk4 : k = 4
  · subst hk4
    have e2 : decide (4 ≠ 4) = false := rfl
    have e1 : True := trivial
    rw [e2]
    simp [Cu.ref, cR, Tk.w, he] at h1 h2 h3 h4 h5
    rcases hkd' with hk3 | ⟨hk3, hk1⟩
    · simp -implicitDefEqProofs [rlS, Cu.cells, bodyOf, loopsOf, hv, Tryz.f289, he, h1, h2, h3, h4, h5, hk3, hjl, hjl', hje, w, e1]
    · simp -implicitDefEqProofs [rlS, Cu.cells, bodyOf, loopsOf, hv, Tryz.f289, he, h1, h2, h3, h4, h5, hk3, hk1, hjl, hjl', hje, w, e1]
  · have e1 : ((k : Int) != 4) = true := by simp; omega
    have e2 : decide (k ≠ 4) = true := by simp [hk4]
    rw [e2]
    simp [Cu.ref, cR, Tk.w, he] at h1 h2 h3 h4 h5
    rcases hkd' with hk3 | ⟨hk3, hk1⟩
    · simp -implicitDefEqProofs [rlS, Cu.cells, bodyOf, loopsOf, hv, Tryz.f289, he, h1, h2, h3, h4, h5, hk3, hjl, hjl', hje, w, e1]
    · simp -implicitDefEqProofs [rlS, Cu.cells, bodyOf, loopsOf, hv, Tryz.f289, he, h1, h2, h3, h4, h5, hk3, hk1, hjl, hjl', hje, w, e1]
theorem rl_loop {k : Nat} (k1 : 1 ≤ k) (k8 : k ≤ 7) : ∀ (m : Nat) (c : Cu) (l : List Tm), c.Ok → c.r.length < m → c.r.length < n + 1 → l.length + 2 * c.r.length < 300000 → Evt fun K => ∀ gl ro N S, m + 1 ≤ N → S.hav rlK = rlS k c l true gl ro → ∃ b,
    loopA (evC Tryz.prog cf 289 (ev K) K (bodyOf Tryz.f289 0)) rlK [] N S = some (.exit 0, rlS k (lpP rec k m c l).1 (lpP rec k m c l).2 b gl ro)
  | 0, c, l, _, h, _, _ => by omega
  | m + 1, c, l, hk, hm, hn, hl => by
    rw [lpP]
    by_cases he : c.e = 0
    · by_cases hb : btw c.next ≠ 0 ∧ levelI (btw c.next) = k
      · rw [if_pos ⟨he, hb⟩]
        have hy := rl_yes hfine hrec hk hn k1 k8 ⟨he, hb⟩ l hl
        obtain ⟨_, hr⟩ := Cu.next_real (c := c) (.inl (btw_real hb.1))
        obtain ⟨f1, f2⟩ := hfine (k + 1) c.on
        have fr := f1.2
        by_cases h4 : k = 4
        · rw [if_pos h4]
          rw [show decide (k ≠ 4) = false by simp [h4]] at hy
          refine hy.imp fun K q1 gl ro N S hN hS => ⟨false, ?_⟩
          obtain ⟨N, rfl⟩ : ∃ x, N = x + 2 := ⟨N - 2, by omega⟩
          have r1 := q1 K gl ro
          rw [← hS] at r1
          obtain ⟨S', hS', e⟩ := loop_on r1
          rw [e, rl_out (ev K) K k _ _ false (.inl rfl) gl ro N S' hS']
        · rw [if_neg h4]
          rw [show decide (k ≠ 4) = true by simp [h4]] at hy
          have ih := rl_loop k1 k8 m (rec (k + 1) c.on).1 (over (btw c.next) l (rec (k + 1) c.on).2) (f1.1 hk.on) (by omega) (by omega) (by rw [over_len]; omega)
          refine (hy.and ih).imp fun K ⟨q1, q2⟩ gl ro N S hN hS => ?_
          obtain ⟨N, rfl⟩ : ∃ x, N = x + 1 := ⟨N - 1, by omega⟩
          have r1 := q1 K gl ro
          rw [← hS] at r1
          obtain ⟨S', hS', e⟩ := loop_on r1
          rw [e]
          exact q2 gl ro N S' (by omega) hS'
      · rw [if_neg (fun h => hb h.2)]
        refine (rl_no hk he k1 (by omega) hb l).imp fun K q1 gl ro N S hN hS => ⟨false, ?_⟩
        obtain ⟨N, rfl⟩ : ∃ x, N = x + 2 := ⟨N - 2, by omega⟩
        have r1 := q1 K gl ro
        rw [← hS] at r1
        obtain ⟨S', hS', e⟩ := loop_on r1
        rw [e, rl_out (ev K) K k _ _ false (.inl rfl) gl ro N S' hS']
    · rw [if_neg (fun h => he h.1)]
      refine (Evt.ge 0).imp fun K _ gl ro N S hN hS => ⟨true, ?_⟩
      obtain ⟨N, rfl⟩ : ∃ x, N = x + 1 := ⟨N - 1, by omega⟩
      rw [rl_out (ev K) K k _ _ true (.inr he) gl ro N S hS]
end
end Go.Proofs.YtckonoejmjblfaaGreatDoor.Ev

/- Layer 6: a level's expressions, as the document reads them. -/
set_option linter.unusedVariables false
set_option linter.unusedSimpArgs false
set_option maxRecDepth 100000
set_option maxHeartbeats 4000000
namespace Go.Proofs.YtckonoejmjblfaaGreatDoor.Ev
open Go Go.RowKit

section
variable {rec : Nat → Cu → Cu × List Tm} (hfine : ∀ k c, Fine (rec k c) c) {n : Nat} (hrec : ∀ d : Cu, d.Ok → d.r.length < n → ∀ k : Nat, 1 ≤ k → k ≤ 8 → Gives 289 [d.ref, I k] (resR (rec k d)))
include hfine hrec -- 289
theorem rLv_ev (hN : n < 100000) : ∀ j, j ≤ 7 → ∀ c : Cu, c.Ok → c.r.length < n + 1 → Gives 289 [c.ref, I (8 - j : Nat)] (resR (lvP rec (n + 1) j c)) := by
  intro j
  induction j with
  | zero =>
    intro _ c hk hn
    unfold lvP
    by_cases he : c.e = 0
    · rw [if_neg (by simp [he])]
      refine .intro Tryz.func289 (by kernel_rfl) ((rAtom_ev hfine hrec hk he hn hN).imp fun k h1 ro gl => ?_)
      generalize atomP rec c = q at h1 ⊢
      obtain ⟨d, x⟩ := q
      simp only [resR] at h1 ⊢
      simp [Cu.ref, cR, he] at h1
      simp -implicitDefEqProofs [Tryz.f289, Cu.ref, cR, he, h1]
    · rw [if_pos he]
      refine .intro Tryz.func289 (by kernel_rfl) (.of fun k ro gl => ?_)
      simp -implicitDefEqProofs [Tryz.f289, Cu.ref, cR, resR, he]
  | succ j ih =>
    intro hj c hk hn
    have ih := ih (by omega) c hk hn
    unfold lvP
    by_cases he : c.e = 0
    rotate_left
    · rw [if_pos he]
      refine .intro Tryz.func289 (by kernel_rfl) (.of fun k ro gl => ?_)
      simp -implicitDefEqProofs [Tryz.f289, Cu.ref, cR, resR, he]
    · rw [if_neg (by simp [he])]
      have hkk : 8 - (j + 1) = 7 - j := by omega
      have hk8 : 8 - j = 7 - j + 1 := by omega
      rw [hkk]
      rw [hk8] at ih
      by_cases h3 : 7 - j = 3 ∧ c.is 1 bNot = true
      · rw [if_pos h3, h3.1]
        obtain ⟨_, hr⟩ := Cu.is_real h3.2 (by simp)
        obtain ⟨f1, f2⟩ := hfine 3 c.on
        have hov := rOver_ev 12 (rec 3 c.on).2 [] (by simp only [List.length_nil]; omega)
        refine .intro Tryz.func289 (by kernel_rfl) (((rIs_c (c := c) 1 bNot).and ((rOn_c hk).and ((hrec c.on hk.on (by omega) 3 (by omega) (by omega)).and hov))).imp fun k ⟨h1, h2, h4, h5⟩ ro gl => ?_)
        rw [h3.2] at h1
        simp only [resR] at h4 h5 ⊢
        generalize rec 3 c.on = q at h4 h5 ⊢
        obtain ⟨d, x⟩ := q
        simp only at h4 h5 ⊢
        generalize over 12 x [] = ov at h5 ⊢
        generalize c.on = c' at h2 h4
        simp [Cu.ref, cR, he] at h1 h2 h4 h5
        simp -implicitDefEqProofs [Tryz.f289, Cu.ref, cR, he, h1, h2, h4, h5]
      · rw [if_neg h3]
        by_cases h7 : 7 - j = 7 ∧ c.is 3 [45] = true
        · rw [if_pos h7, h7.1]
          obtain ⟨_, hr⟩ := Cu.is_real h7.2 (by simp)
          obtain ⟨f1, f2⟩ := hfine 7 c.on
          have hov := rOver_ev 3 (rec 7 c.on).2 [] (by simp only [List.length_nil]; omega)
          refine .intro Tryz.func289 (by kernel_rfl) (((rIs_c (c := c) 3 [45]).and ((rOn_c hk).and ((hrec c.on hk.on (by omega) 7 (by omega) (by omega)).and hov))).imp fun k ⟨h1, h2, h4, h5⟩ ro gl => ?_)
          rw [h7.2] at h1
          simp only [resR] at h4 h5 ⊢
          generalize rec 7 c.on = q at h4 h5 ⊢
          obtain ⟨d, x⟩ := q
          simp only at h4 h5 ⊢
          generalize over 3 x [] = ov at h5 ⊢
          generalize c.on = c' at h2 h4
          simp [Cu.ref, cR, he] at h1 h2 h4 h5
          simp -implicitDefEqProofs [Tryz.f289, Cu.ref, cR, he, h1, h2, h4, h5]
        · rw [if_neg h7]
          obtain ⟨f1, f2⟩ := lvP_fine hfine (n + 1) j c
          have flen := f1.2
          have hlp := rl_loop hfine hrec (k := 7 - j) (by omega) (by omega) (n + 1) (lvP rec (n + 1) j c).1 (lvP rec (n + 1) j c).2 (f1.1 hk) (by omega) (by omega) (by omega)
          refine .intro Tryz.func289 (by kernel_rfl) ((((rIs_c (c := c) 1 bNot).and (rIs_c (c := c) 3 [45])).and (ih.and ((Signs_ev (7 - j) (by omega) (by omega)).and (hlp.and (Evt.ge (n + 3)))))).imp fun K ⟨⟨h1, h2⟩, h4, h5, h6, hK⟩ ro gl => ?_)
          simp only [resR] at h4 ⊢
          generalize lvP rec (n + 1) j c = q at h4 h6 ⊢
          obtain ⟨d, x⟩ := q
          simp only at h4 h6 ⊢
          generalize hkg : 7 - j = k at h3 h7 h4 h5 h6 ⊢
          have hk1 : 1 ≤ k := by omega
          have hk7 : k ≤ 7 := by omega
          have tail : ∀ S : St, S.hav rlK = rlS k d x true gl gl.length → ∃ b, loopC Tryz.prog cf 289 (ev K) K (bodyOf Tryz.f289 0) S = some (.exit 0, rlS k (lpP rec k (n + 1) d x).1 (lpP rec k (n + 1) d x).2 b gl gl.length) := fun S hS => h6 gl gl.length K S (by omega) hS
          have tail : ∀ S : St, S.hav rlK = rlS k d x true gl gl.length → ∃ b : Bool, True ∧ loopC Tryz.prog cf 289 (ev K) K (bodyOf Tryz.f289 0) S = some (.exit 0, rlS k (lpP rec k (n + 1) d x).1 (lpP rec k (n + 1) d x).2 b gl gl.length) := fun S hS => by
            obtain ⟨b, hb⟩ := tail S hS
            exact ⟨b, trivial, hb⟩
          generalize lpP rec k (n + 1) d x = r at tail ⊢
          obtain ⟨d', x'⟩ := r
          simp only at tail ⊢
          have w : IntKind.i64.wrap ((k : Int) + 1) = (k : Int) + 1 := i64w _ (by omega)
          have k8 : ¬ (k : Int) = 8 := by omega
          by_cases e3 : k = 3
          · subst e3
            have hn3 : c.is 1 bNot = false := by
              cases hh : c.is 1 bNot with
              | false => rfl
              | true => exact absurd ⟨rfl, hh⟩ h3
            rw [hn3] at h1
            simp [Cu.ref, cR, he] at h1 h2 h4 h5
            simp -implicitDefEqProofs [Tryz.f289, Cu.ref, cR, he, h1, h4, h5]
            refine bind_ex (tail _ ?_) fun b _ => ?_
            · simp [rlS, Cu.cells]
            · simp [rlS, Cu.cells]
          · by_cases e7 : k = 7
            · subst e7
              have hn7 : c.is 3 [45] = false := by
                cases hh : c.is 3 [45] with
                | false => rfl
                | true => exact absurd ⟨rfl, hh⟩ h7
              rw [hn7] at h2
              simp [Cu.ref, cR, he] at h1 h2 h4 h5
              simp -implicitDefEqProofs [Tryz.f289, Cu.ref, cR, he, h2, h4, h5]
              refine bind_ex (tail _ ?_) fun b _ => ?_
              · simp [rlS, Cu.cells]
              · simp [rlS, Cu.cells]
            · have e3' : ¬ (k : Int) = 3 := by omega
              have e7' : ¬ (k : Int) = 7 := by omega
              simp [Cu.ref, cR, he] at h1 h2 h4 h5
              simp -implicitDefEqProofs [Tryz.f289, Cu.ref, cR, he, h4, h5, w, k8, e3', e7']
              refine bind_ex (tail _ ?_) fun b _ => ?_
              · simp [rlS, Cu.cells]
              · simp [rlS, Cu.cells]
end
/-- The document's answer of a level. -/
theorem rLevel1_ev : ∀ (n : Nat), n < 100000 → ∀ c : Cu, c.Ok → c.r.length < n → ∀ k : Nat, 1 ≤ k → k ≤ 8 → Gives 289 [c.ref, I k] (resR (lvN n k c))
  | 0, _, c, _, h, _, _, _ => by omega
  | n + 1, hN, c, hk, hn, k, k1, k8 => by
    have := rLv_ev (lvN_fine n) (n := n) (fun d hd hdn k k1 k8 => rLevel1_ev n (by omega) d hd hdn k k1 k8) (by omega) (8 - k) (by omega) c hk hn
    rw [show 8 - (8 - k) = k by omega] at this
    exact this
end Go.Proofs.YtckonoejmjblfaaGreatDoor.Ev
