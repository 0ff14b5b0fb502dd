/- Layer 6: what is read without a fault is one whole expression. -/
import Derived.Test.YtckonoejmjblfaaGreatDoorPkExpC
import Derived.Test.YtckonoejmjblfaaGreatDoorPkNum
import Derived.Test.YtckonoejmjblfaaGreatDoorPkTrmC
import Derived.Test.YtckonoejmjblfaaGreatDoorPkExpB
set_option linter.unusedVariables false
set_option linter.unusedSimpArgs false
set_option maxRecDepth 100000
set_option maxHeartbeats 4000000
namespace Go.Proofs.YtckonoejmjblfaaGreatDoor.Ev
open Go Go.RowKit

/-- One whole expression of terms that may be. -/
def Wl (l : List Tm) : Prop := ∃ e : Tr, e.wf ∧ l = e.flat ∧ ∀ t ∈ l, t.may = true
def Sd (x : Cu × List Tm) : Prop := x.1.e = 0 → Wl x.2
theorem Wl.leaf {t : Tm} (h : arity t.op = 0) (hm : t.may = true) : Wl [t] := ⟨.leaf t, h, rfl, by simpa using hm⟩
theorem Wl.one {op : Int} {a : List Tm} (h : arity op = 1) (hm : Tm.may ⟨op, 0, []⟩ = true) (ha : Wl a) : Wl (over op a []) := by
  obtain ⟨e, h1, h2, h3⟩ := ha
  refine ⟨.one ⟨op, 0, []⟩ e, ⟨h, h1⟩, by simp [over, Tr.flat, h2], ?_⟩
  intro t ht
  simp only [over, List.append_nil, List.mem_cons] at ht
  rcases ht with rfl | ht
  · exact hm
  · exact h3 t ht
theorem Wl.two {op : Int} {a b : List Tm} (h : arity op = 2) (hm : Tm.may ⟨op, 0, []⟩ = true) (ha : Wl a) (hb : Wl b) : Wl (over op a b) := by
  obtain ⟨e, h1, h2, h3⟩ := ha
  obtain ⟨f, g1, g2, g3⟩ := hb
  refine ⟨.two ⟨op, 0, []⟩ e f, ⟨h, h1, g1⟩, by simp [over, Tr.flat, h2, g2], ?_⟩
  intro t ht
  simp only [over, List.mem_cons, List.mem_append] at ht
  rcases ht with rfl | ht | ht
  · exact hm
  · exact h3 t ht
  · exact g3 t ht
theorem Cu.fail_e {c : Cu} {e : Int} (he : e ≠ 0) : (c.fail e).e ≠ 0 := by
  unfold Cu.fail
  split
  · exact he
  · rename_i h; intro h'; exact h ⟨h', he⟩
theorem Cu.is_e {c : Cu} {k : Int} {t : List UInt8} (h : c.is k t = true) : c.e = 0 := by
  unfold Cu.is at h
  simp only [Bool.and_eq_true, decide_eq_true_eq] at h
  exact h.1
theorem Cu.want_e {c : Cu} {k : Int} {t : List UInt8} (h : (c.want k t).e = 0) : c.is k t = true ∧ c.e = 0 := by
  unfold Cu.want at h
  split at h
  · rename_i hi; exact ⟨hi, c.is_e hi⟩
  · exact absurd h (c.fail_e (by decide))
theorem Cu.name_e {c : Cu} (h : c.name.1.e = 0) : c.e = 0 ∧ isName c.name.2 = true := by
  unfold Cu.name at h ⊢
  split at h
  · rename_i hn
    rw [if_pos hn]
    unfold Cu.named at hn
    simp only [Bool.and_eq_true, decide_eq_true_eq] at hn
    exact ⟨hn.1, hn.2.2⟩
  · exact absurd h (c.fail_e (by decide))
theorem numOf_cases (s : List UInt8) : (numOf s).2 ≠ 0 ∨ (0 ≤ (numOf s).1 ∧ (numOf s).1 ≤ 1000000) := by
  rcases getR_cases s with ⟨e, h, he⟩ | ⟨x, h, _, h1, h2⟩
  · left; simp only [numOf, h]; exact he
  · right; simp only [numOf, h]; exact ⟨h1, h2⟩
theorem Cu.number_e {c : Cu} {m : Int} (h : (c.number m).1.e = 0) : c.e = 0 ∧ 0 ≤ (c.number m).2 ∧ (c.number m).2 ≤ 1000000 := by
  unfold Cu.number at h ⊢
  split at h
  · rename_i h1
    rw [if_pos h1]
    split at h
    · rename_i h2
      rw [if_pos h2]
      split at h
      · exact absurd h (c.fail_e (by decide))
      · rename_i h3
        rw [if_neg h3]
        rcases numOf_cases c.next.text with h4 | h4
        · exact absurd h2 h4
        · exact ⟨h1.1, h4⟩
    · rename_i h2
      exact absurd h (c.fail_e h2)
  · exact absurd h (c.fail_e (by decide))
theorem btw_op {t : Tk} (h : btw t ≠ 0) : arity (btw t) = 2 ∧ Tm.may ⟨btw t, 0, []⟩ = true := by
  unfold btw at h ⊢
  split at h
  · rename_i hk
    rw [if_pos hk]
    generalize hf : (([4, 5, 6, 7, 8, 9, 10, 11, 12, 13, 14, 15, 16, 17, 18, 19, 20] : List Int).find? fun op => decide (signB op ≠ []) && decide (signB op = t.text)) = o at h ⊢
    cases o with
    | none => simp at h
    | some x =>
      have hm := List.mem_of_find?_eq_some hf
      have hp := List.find?_some hf
      simp only [Bool.and_eq_true, decide_eq_true_eq] at hp
      simp only [Option.getD_some]
      simp only [List.mem_cons, List.not_mem_nil, or_false] at hm
      rcases hm with h | h | h | h | h | h | h | h | h | h | h | h | h | h | h | h | h <;> subst h <;> first | (exact absurd rfl hp.1) | (simp [arity, Tm.may])
  · exact absurd rfl h
section
variable {rec : Nat → Cu → Cu × List Tm} (hfine : ∀ k c, Fine (rec k c) c) {n : Nat} (hs : ∀ k c, c.r.length < n → Sd (rec k c)) (hb : ∀ k c, (rec k c).1.e = 0 → c.e = 0)
include hfine hs hb
theorem twoP_sd {op : Int} (h : arity op = 2) (hm : Tm.may ⟨op, 0, []⟩ = true) {c : Cu} (hn : c.r.length < n) : Sd (twoP rec op c) := by
  intro he
  obtain ⟨a1, a2⟩ := hfine 1 (c.want 3 [40])
  have w1 := (c.want_le 3 [40]).2
  have w2 := ((rec 1 (c.want 3 [40])).1.want_le 3 [44]).2
  have e1 := (Cu.want_e he).2
  have e2 := (Cu.want_e (hb _ _ e1)).2
  have := a1.2
  exact Wl.two h hm (hs _ _ (by omega) e2) (hs _ _ (by omega) e1)
theorem atomP_sd {c : Cu} (he : c.e = 0) (hn : c.r.length < n + 1) : Sd (atomP rec c) := by
  have hfail : Sd (c.fail 2, []) := fun h => absurd h (c.fail_e (by decide))
  unfold atomP
  split
  · intro h
    have := Cu.number_e h
    exact Wl.leaf (by simp [arity]) (by simp [Tm.may, this.2])
  · split
    · rename_i h
      obtain ⟨_, hr⟩ := Cu.is_real h (by simp)
      intro h
      exact hs _ _ (by omega) (Cu.want_e h).2
    · split
      · exact hfail
      · rename_i hk
        have hk : c.next.kind = 1 := by simpa using hk
        obtain ⟨_, hr⟩ := Cu.next_real (c := c) (.inr (by rw [hk]; simp))
        split
        · exact fun _ => Wl.leaf (by simp [arity]) (by simp [Tm.may])
        · split
          · exact fun _ => Wl.leaf (by simp [arity]) (by simp [Tm.may])
          · split
            · intro h
              have := Cu.name_e (Cu.want_e h).2
              exact Wl.leaf (by simp [arity]) (by simp [Tm.may, this.2])
            · split
              · exact twoP_sd hfine hs hb (by simp [arity]) (by simp [Tm.may]) (by omega)
              · split
                · exact twoP_sd hfine hs hb (by simp [arity]) (by simp [Tm.may]) (by omega)
                · split
                  · rename_i h
                    exact fun _ => Wl.leaf (by simp [arity]) (by simp [Tm.may, h])
                  · exact hfail
omit hb in
theorem lpP_sd (k : Nat) : ∀ (m : Nat) (c : Cu) (l : List Tm), c.r.length < n + 1 → Sd (c, l) → Sd (lpP rec k m c l)
  | 0, c, l, _, h => h
  | m + 1, c, l, hn, h => by
    unfold lpP
    split
    · rename_i hc
      obtain ⟨_, hr⟩ := Cu.next_real (c := c) (.inl (btw_real hc.2.1))
      obtain ⟨a1, a2⟩ := hfine (k + 1) c.on
      have := a1.2
      obtain ⟨o1, o2⟩ := btw_op hc.2.1
      have hx : Sd ((rec (k + 1) c.on).1, over (btw c.next) l (rec (k + 1) c.on).2) := fun h' => Wl.two o1 o2 (h hc.1) (hs _ _ (by omega) h')
      split
      · exact hx
      · exact lpP_sd k m _ _ (by omega) hx
    · exact h
theorem lvP_sd (m : Nat) : ∀ (j : Nat) (c : Cu), c.r.length < n + 1 → Sd (lvP rec m j c)
  | 0, c, hn => by
    unfold lvP
    split
    · rename_i h; exact fun h' => absurd h' h
    · rename_i h; exact atomP_sd hfine hs hb (by simpa using h) hn
  | j + 1, c, hn => by
    unfold lvP
    split
    · rename_i h; exact fun h' => absurd h' h
    · split
      · rename_i h
        obtain ⟨_, hr⟩ := Cu.is_real h.2 (by simp)
        exact fun h' => Wl.one (by simp [arity]) (by simp [Tm.may]) (hs _ _ (by omega) h')
      · split
        · rename_i h
          obtain ⟨_, hr⟩ := Cu.is_real h.2 (by simp)
          exact fun h' => Wl.one (by simp [arity]) (by simp [Tm.may]) (hs _ _ (by omega) h')
        · obtain ⟨a1, a2⟩ := lvP_fine hfine m j c
          have := a1.2
          exact lpP_sd hfine hs _ _ _ _ (by omega) (lvP_sd m j c hn)
end
theorem lvN_e : ∀ (n k : Nat) (c : Cu), (lvN n k c).1.e = 0 → c.e = 0
  | 0, _, _, h => h
  | n + 1, k, c, h => by
    by_cases he : c.e = 0
    · exact he
    · have e2 : lvP (lvN n) (n + 1) (8 - k) c = (c, []) := by
        generalize 8 - k = j
        cases j <;> (rw [lvP, if_pos he])
      rw [lvN, e2] at h
      exact h
theorem lvN_sd : ∀ (n k : Nat) (c : Cu), c.r.length < n → Sd (lvN n k c)
  | 0, _, _, h => by omega
  | n + 1, k, c, h => lvP_sd (lvN_fine n) (fun k c h => lvN_sd n k c h) (lvN_e n) (n + 1) (8 - k) c h
/-- How deep. -/
def depV (l : List Tm) : Nat := match stk l with
  | some [e] => e.dep
  | _ => 0
theorem depV_flat {e : Tr} (h : e.wf) : depV e.flat = e.dep := by unfold depV; rw [stk_whole e h]
theorem depV_eq {e : Tr} (h : e.wf) {l : List Tm} (hl : l = e.flat) : depV l = e.dep := by rw [hl, depV_flat h]
/-- The expression that is next. -/
def readP (c : Cu) : Cu × List Tm :=
  let x := lvN (c.r.length + 1) 1 c
  let d := if x.1.e = 0 then (if 40 < x.2.length then x.1.fail 8 else if 12 < depV x.2 then x.1.fail 6 else x.1) else x.1
  (d, if d.e = 0 then x.2 else [])
theorem fo_dep : ∀ (e : Tr), e.flat.length ≤ 1000000 → e.fo depM = e.dep
  | .leaf t, _ => by simp [Tr.fo, depM, Tr.dep, maxL]
  | .one t a, h => by
    have ih := fo_dep a (by simp [Tr.flat] at h; omega)
    have := a.dep_le
    have := Tr.dep_le (.one t a)
    simp only [Tr.fo, ih, depM, Tr.dep, maxL, List.cons_append, List.nil_append, List.tail_cons, List.headD_cons] at *
    rw [i64w _ (by split <;> omega)]
    split <;> omega
  | .two t a b, h => by
    have ih := fo_dep a (by simp [Tr.flat] at h; omega)
    have ih2 := fo_dep b (by simp [Tr.flat] at h; omega)
    have := Tr.dep_le (.two t a b)
    simp only [Tr.fo, ih, ih2, depM, Tr.dep, maxL, List.cons_append, List.nil_append, List.tail_cons, List.headD_cons] at *
    rw [i64w _ (by split <;> split <;> omega)]
    split <;> split <;> omega
theorem foldD_dep {e : Tr} (h : e.wf) (hl : e.flat.length ≤ 40) : foldD depM e.flat = e.dep := by
  rw [foldD_tree depM e h hl, fo_dep e (by omega)]
end Go.Proofs.YtckonoejmjblfaaGreatDoor.Ev

/- Layer 6: Read, the document's and the program's. -/
set_option linter.unusedVariables false
set_option linter.unusedSimpArgs false
set_option maxRecDepth 100000
set_option maxHeartbeats 4000000
namespace Go.Proofs.YtckonoejmjblfaaGreatDoor.Ev
open Go Go.RowKit

theorem Depth_ev (l : List Tm) (hl : l.length < 1000000) : Gives 192 [L (l.map Tm.c)] (V.int .i64 (foldD depM l)) := by
  refine .intro Tryz.func192 (by kernel_rfl) ((fold_ev 252 depM Depth1_ev (by kernel_rfl) (by kernel_rfl) l hl).imp fun k h ro gl => ?_)
  simp -implicitDefEqProofs [Tryz.f192, h]
theorem rRead_ev {c : Cu} (hk : c.Ok) (hn : c.r.length < 90000) : Gives 266 [c.ref] (resR (readP c)) := by
  have hlv := rLevel1_ev (c.r.length + 1) (by omega) c hk (by omega) 1 (by omega) (by omega)
  obtain ⟨g1, g2⟩ := lvN_fine (c.r.length + 1) 1 c
  have hd := lvN_sd (c.r.length + 1) 1 c (by omega)
  unfold readP
  simp only
  generalize lvN (c.r.length + 1) 1 c = q at hlv hd g1 g2 ⊢
  obtain ⟨d, x⟩ := q
  simp only at hlv hd g1 g2 ⊢
  by_cases he : d.e = 0
  · obtain ⟨t, t1, t2, _⟩ := hd he
    simp only at t2
    have tl := t.dep_le
    rw [← t2] at tl
    rw [if_pos he]
    by_cases h40 : 40 < x.length
    · rw [if_pos h40]
      have j40 : (40 : Int) < x.length := by omega
      have hz : (d.fail 8).e ≠ 0 := d.fail_e (by decide)
      rw [if_neg hz]
      refine .intro Tryz.func266 (by kernel_rfl) ((hlv.and (rFail_c (c := d) 8)).imp fun k ⟨h1, h2⟩ ro gl => ?_)
      simp only [resR] at h1 ⊢
      generalize d.fail 8 = d' at hz h2 ⊢
      simp [Cu.ref, cR, he] at h1 h2
      simp -implicitDefEqProofs [Tryz.f266, Cu.ref, cR, he, h1, h2, j40, hz]
    · rw [if_neg h40, depV_eq t1 t2]
      have j40 : ¬ (40 : Int) < x.length := by omega
      have hdp := rDepth_ev t t1 x 0 (t2 ▸ Tr.At.root t) (by omega)
      by_cases h12 : 12 < t.dep
      · rw [if_pos h12]
        have j12 : (12 : Int) < t.dep := by omega
        have hz : (d.fail 6).e ≠ 0 := d.fail_e (by decide)
        rw [if_neg hz]
        refine .intro Tryz.func266 (by kernel_rfl) ((hlv.and ((rFail_c (c := d) 6).and hdp)).imp fun k ⟨h1, h2, h3⟩ ro gl => ?_)
        simp only [resR] at h1 ⊢
        generalize d.fail 6 = d' at hz h2 ⊢
        simp [Cu.ref, cR, he] at h1 h2 h3
        simp -implicitDefEqProofs [Tryz.f266, Cu.ref, cR, he, h1, h2, h3, j40, j12, hz]
      · rw [if_neg h12, if_pos he]
        have j12 : ¬ (12 : Int) < t.dep := by omega
        refine .intro Tryz.func266 (by kernel_rfl) ((hlv.and hdp).imp fun k ⟨h1, h3⟩ ro gl => ?_)
        simp only [resR] at h1 ⊢
        simp [Cu.ref, cR, he] at h1 h3
        simp -implicitDefEqProofs [Tryz.f266, Cu.ref, cR, he, h1, h3, j40, j12]
  · rw [if_neg he, if_neg he]
    refine .intro Tryz.func266 (by kernel_rfl) (hlv.imp fun k h1 ro gl => ?_)
    simp only [resR] at h1 ⊢
    simp [Cu.ref, cR, he] at h1
    simp -implicitDefEqProofs [Tryz.f266, Cu.ref, cR, he, h1]
theorem Read_ev {c : Cu} (hk : c.Ok) (hn : c.r.length < 90000) : DoesU 146 (fun o => [.w (.glo o 0)]) c.w (.c (L ((readP c).2.map Tm.c))) (readP c).1.w := by
  have hlv := from_ev (c.r.length + 1) (by omega) c hk (by omega) 1 (by omega) (by omega)
  obtain ⟨g1, g2⟩ := lvN_fine (c.r.length + 1) 1 c
  have hd := lvN_sd (c.r.length + 1) 1 c (by omega)
  unfold readP
  simp only
  generalize lvN (c.r.length + 1) 1 c = q at hlv hd g1 g2 ⊢
  obtain ⟨d, x⟩ := q
  simp only at hlv hd g1 g2 ⊢
  have dk := g1.1 hk
  by_cases he : d.e = 0
  · obtain ⟨t, t1, t2, _⟩ := hd he
    simp only at t2
    rw [if_pos he]
    by_cases h40 : 40 < x.length
    · rw [if_pos h40]
      have j40 : (40 : Int) < x.length := by omega
      have hz : (d.fail 8).e ≠ 0 := d.fail_e (by decide)
      rw [if_neg hz]
      refine .intro Tryz.func146 (by kernel_rfl) ((hlv.and ((fail_c dk 8).and (good_c (c := d.fail 8)))).imp fun k ⟨h1, h2, h3⟩ gl o ro hg hro => ?_)
      have h1 := h1 gl o ro hg hro
      have h2 := h2 _ o ro (get_set hg _) hro
      have h3 := fun ro => h3 _ o ro (get_set hg _)
      simp only [List.set_set] at h2
      simp [hz] at h1 h2 h3
      simp -implicitDefEqProofs [Tryz.f146, h1, h2, h3, j40]
    · rw [if_neg h40, depV_eq t1 t2]
      have j40 : ¬ (40 : Int) < x.length := by omega
      have hdp := Depth_ev x (by omega)
      rw [t2, foldD_dep t1 (by rw [← t2]; omega), ← t2] at hdp
      by_cases h12 : 12 < t.dep
      · rw [if_pos h12]
        have j12 : (12 : Int) < t.dep := by omega
        have hz : (d.fail 6).e ≠ 0 := d.fail_e (by decide)
        rw [if_neg hz]
        refine .intro Tryz.func146 (by kernel_rfl) ((hlv.and ((fail_c dk 6).and ((good_c (c := d.fail 6)).and ((good_c (c := d)).and hdp)))).imp fun k ⟨h1, h2, h3, h4, h5⟩ gl o ro hg hro => ?_)
        have h1 := h1 gl o ro hg hro
        have h2 := h2 _ o ro (get_set hg _) hro
        have h3 := fun ro => h3 _ o ro (get_set hg _)
        have h4 := fun ro => h4 _ o ro (get_set hg _)
        simp only [List.set_set] at h2
        simp [hz, he] at h1 h2 h3 h4 h5
        simp -implicitDefEqProofs [Tryz.f146, h1, h2, h3, h4, h5, j40, j12]
      · rw [if_neg h12, if_pos he]
        have j12 : ¬ (12 : Int) < t.dep := by omega
        refine .intro Tryz.func146 (by kernel_rfl) ((hlv.and ((good_c (c := d)).and hdp)).imp fun k ⟨h1, h4, h5⟩ gl o ro hg hro => ?_)
        have h1 := h1 gl o ro hg hro
        have h4 := fun ro => h4 _ o ro (get_set hg _)
        simp [he] at h1 h4 h5
        simp -implicitDefEqProofs [Tryz.f146, h1, h4, h5, j40, j12]
  · rw [if_neg he, if_neg he]
    have hs : d.fail 8 = d := by unfold Cu.fail; rw [if_neg (fun h => he h.1)]
    have hf := fail_c dk 8
    rw [hs] at hf
    by_cases h40 : (40 : Int) < x.length
    · refine .intro Tryz.func146 (by kernel_rfl) ((hlv.and (hf.and (good_c (c := d)))).imp fun k ⟨h1, h2, h3⟩ gl o ro hg hro => ?_)
      have h1 := h1 gl o ro hg hro
      have h2 := h2 _ o ro (get_set hg _) hro
      have h3 := fun ro => h3 _ o ro (get_set hg _)
      simp only [List.set_set] at h2
      simp [he] at h1 h2 h3
      simp -implicitDefEqProofs [Tryz.f146, h1, h2, h3, h40]
    · refine .intro Tryz.func146 (by kernel_rfl) ((hlv.and (good_c (c := d))).imp fun k ⟨h1, h3⟩ gl o ro hg hro => ?_)
      have h1 := h1 gl o ro hg hro
      have h3 := fun ro => h3 _ o ro (get_set hg _)
      simp [he] at h1 h3
      simp -implicitDefEqProofs [Tryz.f146, h1, h3, h40]
end Go.Proofs.YtckonoejmjblfaaGreatDoor.Ev

/- Layer 6: a cursor stays within bounds. -/
set_option linter.unusedVariables false
set_option linter.unusedSimpArgs false
namespace Go.Proofs.YtckonoejmjblfaaGreatDoor.Ev
open Go Go.RowKit
theorem readP_ok {c : Cu} (hk : c.Ok) : (readP c).1.Ok := by
  have := (lvN_fine (c.r.length + 1) 1 c).1.1 hk
  unfold readP
  simp only
  split
  · split
    · exact this.fail _
    · split
      · exact this.fail _
      · exact this
  · exact this
theorem readP_len (c : Cu) : (readP c).2.length ≤ 40 := by
  unfold readP
  simp only
  generalize lvN (c.r.length + 1) 1 c = x
  by_cases h1 : x.1.e = 0
  · rw [if_pos h1]
    by_cases h2 : 40 < x.2.length
    · rw [if_pos h2, if_neg (Cu.fail_e (by decide))]
      simp
    · rw [if_neg h2]
      by_cases h3 : 12 < depV x.2
      · rw [if_pos h3, if_neg (Cu.fail_e (by decide))]
        simp
      · rw [if_neg h3, if_pos h1]
        omega
  · rw [if_neg h1, if_neg h1]
    simp
end Go.Proofs.YtckonoejmjblfaaGreatDoor.Ev
