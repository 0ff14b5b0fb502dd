/- Layer 6: an expression's text comes to its words. -/
import Derived.Test.YtckonoejmjblfaaGreatDoorPkLaw
import Derived.Test.YtckonoejmjblfaaGreatDoorPkPut
import Derived.Test.YtckonoejmjblfaaGreatDoorPkNum
set_option linter.unusedVariables false
set_option linter.unusedSimpArgs false
set_option maxRecDepth 100000
set_option maxHeartbeats 2000000
namespace Go.Proofs.YtckonoejmjblfaaGreatDoor.Ev
open Go Go.RowKit

/-- No blank and no remark begins a text. -/
def nbH (s : List UInt8) : Prop := ∀ c r, s = c :: r → blank c.toNat = false ∧ c ≠ 35
/-- No word goes on into a text. -/
def sepH (s : List UInt8) : Prop := ∀ c r, s = c :: r → wordC c = false
theorem pre35 {s : List UInt8} (h : nbH s) : pre s [35] = false := by
  cases s with
  | nil => rfl
  | cons c r =>
    have := (h c r rfl).2
    simp [pre, this]
theorem gap0 {s : List UInt8} (h : nbH s) : gapN s = 0 := by
  unfold gapN
  rw [pre35 h]
  cases s with
  | nil => rfl
  | cons c r => simp [List.dropWhile_cons, (h c r rfl).1]
theorem gap1 {s : List UInt8} (h : nbH s) : gapN (32 :: s) = 1 := by
  unfold gapN
  rw [show pre (32 :: s) [35] = false by simp [pre]]
  have b : blank 32 = true := by decide
  cases s with
  | nil => simp [List.dropWhile_cons, b]
  | cons c r => simp [List.dropWhile_cons, b, (h c r rfl).1]
theorem gapG {g s : List UInt8} (hg : ∀ c ∈ g, blank c.toNat = true) (h : nbH s) : gapN (g ++ s) = g.length := by
  have hd : (g ++ s).dropWhile (fun c => blank c.toNat) = s := by
    induction g with
    | nil =>
      cases s with
      | nil => rfl
      | cons c r => simp [List.dropWhile_cons, (h c r rfl).1]
    | cons c g ih => rw [List.cons_append, List.dropWhile_cons, if_pos (hg c (by simp)), ih fun x hx => hg x (by simp [hx])]
  have hp : pre (g ++ s) [35] = false := by
    cases g with
    | nil => exact pre35 h
    | cons c g =>
      have hc : c ≠ 35 := fun e => by
        have := hg c (by simp)
        rw [e] at this
        revert this
        decide
      simp [pre, hc]
  unfold gapN
  rw [hp, if_neg (by decide), hd, List.length_append]
  omega
abbrev Wd := Int × List UInt8
/-- The words of a text. -/
inductive Sc : List UInt8 → List Wd → Prop
  | nil : Sc [] []
  | word {k : Int} {w s : List UInt8} {ws : List Wd} : nextT (w ++ s) = (k, w.length, 0) → w ≠ [] → nbH (w ++ s) → Sc s ws → Sc (w ++ s) ((k, w) :: ws)
  | gap {g s : List UInt8} {ws : List Wd} : (∀ c ∈ g, blank c.toNat = true) → nbH s → Sc s ws → Sc (g ++ s) ws
theorem Sc.sp {s : List UInt8} {ws : List Wd} (h : nbH s) (k : Sc s ws) : Sc (32 :: s) ws := .gap (g := [32]) (by simp; decide) h k
def Tk.kt (t : Tk) : Wd := (t.kind, t.text)
theorem rest0 {w : Wk} (h : nbH w.s) (n : Nat) : w.rest n = w := by
  cases n with
  | zero => rfl
  | succ n => rw [Wk.rest, if_pos (gap0 h)]
theorem Sc.toks {s : List UInt8} {ws : List Wd} (h : Sc s ws) : ∀ (f : Nat) (acc : List Tk) (w : Wk), w.s = s → ws.length < f → acc.length + ws.length ≤ 4000 →
    ∃ ts w', toks f acc (w.rest (s.length + 1)) = (acc ++ ts, w', 0) ∧ ts.map Tk.kt = ws := by
  induction h with
  | nil =>
    intro f acc w hw hf ha
    obtain ⟨g, rfl⟩ : ∃ g, f = g + 1 := ⟨f - 1, by simp at hf; omega⟩
    rw [rest0 (by rw [hw]; intro c r h; cases h)]
    exact ⟨[], w, by rw [Ev.toks, if_pos hw]; simp, rfl⟩
  | @word k wd s ws hn hne hb _ ih =>
    intro f acc w hw hf ha
    obtain ⟨g, rfl⟩ : ∃ g, f = g + 1 := ⟨f - 1, by simp at hf; omega⟩
    simp only [List.length_cons] at hf ha
    rw [rest0 (by rw [hw]; exact hb)]
    have hs : (w.step wd.length).s = s := by simp [Wk.step, hw]
    obtain ⟨ts, w', h1, h2⟩ := ih g (acc ++ [w.tok]) (w.step wd.length) hs (by omega) (by simp; omega)
    have hnil : w.s ≠ [] := by rw [hw]; simp [hne]
    have hz : Ev.tokE w.s acc.length = 0 := by
      unfold Ev.tokE
      rw [hw, hn, if_neg (by simp; omega)]
    have ht : w.tok.kt = (k, wd) := by simp [Wk.tok, Tk.kt, hw, hn]
    have hg : w.go = (w.step wd.length).rest (s.length + 1) := by
      unfold Wk.go
      rw [hw, hn]
      simp only
      rw [hs]
    refine ⟨w.tok :: ts, w', ?_, by simp [ht, h2]⟩
    rw [Ev.toks, if_neg hnil, if_pos hz, hg, h1]
    simp
  | @gap g s ws hg hb _ ih =>
    intro f acc w hw hf ha
    by_cases h0 : g = []
    · subst h0
      exact ih f acc w hw hf ha
    · have hs : (w.step g.length).s = s := by simp [Wk.step, hw]
      obtain ⟨ts, w', h1, h2⟩ := ih f acc (w.step g.length) hs hf ha
      refine ⟨ts, w', ?_, h2⟩
      rw [rest0 (by rw [hs]; exact hb)] at h1
      rw [Wk.rest, hw, gapG hg hb, if_neg (by simpa using h0), rest0 (by rw [hs]; exact hb), h1]
/-- Too many words. -/
theorem Sc.over {s : List UInt8} {ws : List Wd} (h : Sc s ws) : ∀ (f : Nat) (acc : List Tk) (w : Wk), w.s = s → ws.length < f → acc.length ≤ 4000 → 4000 < acc.length + ws.length →
    (Ev.toks f acc (w.rest (s.length + 1))).2.2 = 8 := by
  induction h with
  | nil =>
    intro f acc w hw hf h4 ha
    simp at ha
    omega
  | @word k wd s ws hn hne hb _ ih =>
    intro f acc w hw hf h4 ha
    obtain ⟨g, rfl⟩ : ∃ g, f = g + 1 := ⟨f - 1, by simp at hf; omega⟩
    simp only [List.length_cons] at hf ha
    rw [rest0 (by rw [hw]; exact hb)]
    have hs : (w.step wd.length).s = s := by simp [Wk.step, hw]
    have hnil : w.s ≠ [] := by rw [hw]; simp [hne]
    by_cases h40 : acc.length = 4000
    · have hz : Ev.tokE w.s acc.length = 8 := by
        unfold Ev.tokE
        rw [hw, hn, if_pos ⟨rfl, h40⟩]
      rw [Ev.toks, if_neg hnil, if_neg (by rw [hz]; decide), hz]
    · have hz : Ev.tokE w.s acc.length = 0 := by
        unfold Ev.tokE
        rw [hw, hn, if_neg (by simp; omega)]
      have hg : w.go = (w.step wd.length).rest (s.length + 1) := by
        unfold Wk.go
        rw [hw, hn]
        simp only
        rw [hs]
      rw [Ev.toks, if_neg hnil, if_pos hz, hg]
      exact ih g (acc ++ [w.tok]) (w.step wd.length) hs (by omega) (by simp; omega) (by simp; omega)
  | @gap g s ws hg hb _ ih =>
    intro f acc w hw hf h4 ha
    by_cases h0 : g = []
    · subst h0
      exact ih f acc w hw hf h4 ha
    · have hs : (w.step g.length).s = s := by simp [Wk.step, hw]
      have h1 := ih f acc (w.step g.length) hs hf h4 ha
      rw [rest0 (by rw [hs]; exact hb)] at h1
      rw [Wk.rest, hw, gapG hg hb, if_neg (by simpa using h0), rest0 (by rw [hs]; exact hb), h1]
/-- The tokens of a text whose words are known. -/
theorem Sc.tkL {s : List UInt8} {ws : List Wd} (h : Sc s ws) (hs : s.length ≤ 60000) (hl : ws.length ≤ 4000) (hw : ws.length ≤ s.length) : Ev.tkE s = 0 ∧ (Ev.tkL s).map Tk.kt = ws ++ [(0, [])] := by
  obtain ⟨ts, w', h1, h2⟩ := h.toks (s.length + 1) [] ⟨s, 1, 1⟩ rfl (by omega) (by simpa using hl)
  have hx : tkX s = (ts, w', 0) := by unfold tkX; rw [h1]; rfl
  have h6 : ¬ 65536 < s.length := by omega
  unfold Ev.tkE Ev.tkL
  rw [if_neg h6, if_neg h6, hx]
  simp [h2, Tk.kt]
/-! Single words. -/
theorem takeW {p : UInt8 → Bool} : ∀ (w s : List UInt8), (∀ c ∈ w, p c = true) → (∀ c r, s = c :: r → p c = false) → (w ++ s).takeWhile p = w
  | [], s, _, h => by
    cases s with
    | nil => rfl
    | cons c r => simp [List.takeWhile_cons, h c r rfl]
  | c :: w, s, hw, h => by
    rw [List.cons_append, List.takeWhile_cons, hw c (by simp), takeW w s (fun c hc => hw c (by simp [hc])) h]
    rfl
theorem next_name {w s : List UInt8} (h1 : ∀ c ∈ w, wordC c = true) (h2 : lowC (w.headD 0) = true) (h3 : w ≠ []) (h4 : w.length ≤ 12) (hs : sepH s) : nextT (w ++ s) = (1, w.length, 0) := by
  obtain ⟨c, r, rfl⟩ : ∃ c r, w = c :: r := by cases w with
    | nil => exact absurd rfl h3
    | cons c r => exact ⟨c, r, rfl⟩
  have ht := takeW (c :: r) s h1 hs
  unfold nextT
  rw [ht]
  simp only [List.cons_append, List.headD_cons] at h2 ⊢
  rw [if_pos h2, if_neg (by omega)]
theorem fig_lo {c : UInt8} (h : figC c = true) : lowC c = false := by
  simp only [figC, lowC, Bool.and_eq_true, decide_eq_true_eq, Bool.and_eq_false_iff, decide_eq_false_iff_not] at h ⊢
  omega
theorem next_num {w s : List UInt8} (h1 : ∀ c ∈ w, figC c = true) (h3 : w ≠ []) (h4 : w.length ≤ 9) (hs : sepH s) : nextT (w ++ s) = (2, w.length, 0) := by
  obtain ⟨c, r, rfl⟩ : ∃ c r, w = c :: r := by cases w with
    | nil => exact absurd rfl h3
    | cons c r => exact ⟨c, r, rfl⟩
  have hf := h1 c (by simp)
  have ht := takeW (p := figC) (c :: r) s h1 (fun c r h => by
    have := hs c r h
    simp only [wordC, Bool.or_eq_false_iff] at this
    exact this.1.2)
  unfold nextT
  rw [ht]
  simp only [List.cons_append, List.headD_cons]
  have hd : ¬ (((c :: (r ++ s)).drop (c :: r).length).head?.any wordC) = true := by
    simp only [List.length_cons, List.drop_succ_cons, List.drop_left]
    cases s with
    | nil => simp
    | cons d q => simp [hs d q rfl]
  rw [if_neg (by simp [fig_lo hf]), if_pos hf, if_neg hd, if_neg (by omega)]
/-- One mark of one byte. -/
theorem next_m1 {c : UInt8} (hc : c ∈ ([40, 41, 44, 43, 42] : List UInt8)) (s : List UInt8) : nextT ([c] ++ s) = (3, 1, 0) := by
  simp only [List.mem_cons, List.not_mem_nil, or_false] at hc
  rcases hc with rfl | rfl | rfl | rfl | rfl <;>
    simp [nextT, lowC, figC, markN, hasM2, marks2, pre, marks1, Lib.indexByte]
theorem next_m2 {c : UInt8} (hc : c ∈ ([45, 60, 62] : List UInt8)) {s : List UInt8} (hs : ∀ d r, s = d :: r → d ≠ 61 ∧ d ≠ 62) : nextT ([c] ++ s) = (3, 1, 0) := by
  simp only [List.mem_cons, List.not_mem_nil, or_false] at hc
  cases s with
  | nil => rcases hc with rfl | rfl | rfl <;> simp [nextT, lowC, figC, markN, hasM2, marks2, pre, marks1, Lib.indexByte]
  | cons d r =>
    have h1 := (hs d r rfl).1
    have h2 := (hs d r rfl).2
    rcases hc with rfl | rfl | rfl <;> simp [nextT, lowC, figC, markN, hasM2, marks2, pre, marks1, Lib.indexByte, h1, h2]
theorem next_mm {w : List UInt8} (hc : w ∈ ([[61, 61], [33, 61], [60, 61], [62, 61]] : List (List UInt8))) (s : List UInt8) : nextT (w ++ s) = (3, 2, 0) := by
  simp only [List.mem_cons, List.not_mem_nil, or_false] at hc
  rcases hc with rfl | rfl | rfl | rfl <;>
    simp [nextT, lowC, figC, markN, hasM2, marks2, pre]
theorem nbH_cons {c : UInt8} (h : blank c.toNat = false) (h2 : c ≠ 35) (s : List UInt8) : nbH (c :: s) := fun _ _ e => by cases e; exact ⟨h, h2⟩
theorem sepH_cons {c : UInt8} (h : wordC c = false) (s : List UInt8) : sepH (c :: s) := fun _ _ e => by cases e; exact h
theorem lowC_nb {c : UInt8} (h : lowC c = true) : blank c.toNat = false ∧ c ≠ 35 := by
  simp only [lowC, Bool.and_eq_true, decide_eq_true_eq] at h
  refine ⟨?_, fun e => by subst e; revert h; decide⟩
  simp only [blank, Bool.or_eq_false_iff, decide_eq_false_iff_not]
  omega
theorem figC_nb {c : UInt8} (h : figC c = true) : blank c.toNat = false ∧ c ≠ 35 := by
  simp only [figC, Bool.and_eq_true, decide_eq_true_eq] at h
  refine ⟨?_, fun e => by subst e; revert h; decide⟩
  simp only [blank, Bool.or_eq_false_iff, decide_eq_false_iff_not]
  omega
theorem Sc.m1 {c : UInt8} (hc : c ∈ ([40, 41, 44, 43, 42] : List UInt8)) {s : List UInt8} {ws : List Wd} (h : Sc s ws) : Sc (c :: s) ((3, [c]) :: ws) :=
  .word (w := [c]) (next_m1 hc s) (by simp) (by
    simp only [List.mem_cons, List.not_mem_nil, or_false] at hc
    rcases hc with rfl | rfl | rfl | rfl | rfl <;> exact nbH_cons (by decide) (by decide) s) h
theorem Sc.m2 {c : UInt8} (hc : c ∈ ([45, 60, 62] : List UInt8)) {s : List UInt8} {ws : List Wd} (hs : ∀ d r, s = d :: r → d ≠ 61 ∧ d ≠ 62) (h : Sc s ws) : Sc (c :: s) ((3, [c]) :: ws) :=
  .word (w := [c]) (next_m2 hc hs) (by simp) (by
    simp only [List.mem_cons, List.not_mem_nil, or_false] at hc
    rcases hc with rfl | rfl | rfl <;> exact nbH_cons (by decide) (by decide) s) h
theorem Sc.mm {w : List UInt8} (hc : w ∈ ([[61, 61], [33, 61], [60, 61], [62, 61]] : List (List UInt8))) {s : List UInt8} {ws : List Wd} (h : Sc s ws) : Sc (w ++ s) ((3, w) :: ws) := by
  have h2 : w.length = 2 := by
    simp only [List.mem_cons, List.not_mem_nil, or_false] at hc
    rcases hc with rfl | rfl | rfl | rfl <;> rfl
  refine .word (by rw [h2]; exact next_mm hc s) (by intro e; rw [e] at h2; cases h2) ?_ h
  simp only [List.mem_cons, List.not_mem_nil, or_false] at hc
  rcases hc with rfl | rfl | rfl | rfl <;> exact nbH_cons (by decide) (by decide) _
theorem Sc.name {w s : List UInt8} {ws : List Wd} (h1 : ∀ c ∈ w, wordC c = true) (h2 : lowC (w.headD 0) = true) (h3 : w ≠ []) (h4 : w.length ≤ 12) (hs : sepH s) (h : Sc s ws) : Sc (w ++ s) ((1, w) :: ws) := by
  refine .word (next_name h1 h2 h3 h4 hs) h3 ?_ h
  cases w with
  | nil => exact absurd rfl h3
  | cons c r => exact nbH_cons (lowC_nb h2).1 (lowC_nb h2).2 _
theorem Sc.num {w s : List UInt8} {ws : List Wd} (h1 : ∀ c ∈ w, figC c = true) (h3 : w ≠ []) (h4 : w.length ≤ 9) (hs : sepH s) (h : Sc s ws) : Sc (w ++ s) ((2, w) :: ws) := by
  refine .word (next_num h1 h3 h4 hs) h3 ?_ h
  cases w with
  | nil => exact absurd rfl h3
  | cons c r => exact nbH_cons (figC_nb (h1 c (by simp))).1 (figC_nb (h1 c (by simp))).2 _
theorem nm_word : ∀ (b : Bool) (s : List UInt8), nmL b s = true → ∀ c ∈ s, wordC c = true
  | b, [], _, c, hc => by cases hc
  | b, d :: r, h, c, hc => by
    simp only [nmL, Bool.and_eq_true, Bool.or_eq_true] at h
    rcases List.mem_cons.1 hc with rfl | hc
    · rcases h.1 with h | h
      · simp only [lowB, decide_eq_true_eq] at h
        simp [wordC, lowC, h]
      · have := h.2
        simp only [othB, decide_eq_true_eq] at this
        rcases this with h | h
        · simp [wordC, figC, h]
        · simp [wordC, h]
    · exact nm_word false r h.2 c hc
theorem isName_word {s : List UInt8} (h : isName s = true) : (∀ c ∈ s, wordC c = true) ∧ lowC (s.headD 0) = true ∧ s ≠ [] ∧ s.length ≤ 12 ∧ s ∉ kws := by
  simp only [isName, Bool.and_eq_true, decide_eq_true_eq, Bool.not_eq_true', decide_eq_false_iff_not] at h
  obtain ⟨⟨h1, h2⟩, h3⟩ := h
  refine ⟨nm_word true s h3, ?_, by rintro rfl; simp at h1, h1.2, h2⟩
  cases s with
  | nil => simp at h1
  | cons c r =>
    simp only [nmL, Bool.not_true, Bool.false_and, Bool.or_false, Bool.and_eq_true, lowB, decide_eq_true_eq] at h3
    simp [lowC, h3.1]
theorem isName_sc {w s : List UInt8} {ws : List Wd} (h : isName w = true) (hs : sepH s) (k : Sc s ws) : Sc (w ++ s) ((1, w) :: ws) := by
  obtain ⟨h1, h2, h3, h4, _⟩ := isName_word h
  exact .name h1 h2 h3 h4 hs k
end Go.Proofs.YtckonoejmjblfaaGreatDoor.Ev

/- Layer 6: an expression's text comes to the expression's words. -/
set_option linter.unusedVariables false
set_option linter.unusedSimpArgs false
set_option maxRecDepth 100000
set_option maxHeartbeats 2000000
namespace Go.Proofs.YtckonoejmjblfaaGreatDoor.Ev
open Go Go.RowKit

def brkW (k least : Int) (ws : List Wd) : List Wd := if k < least then (3, [40]) :: (ws ++ [(3, [41])]) else ws
/-- The sign's word. -/
def signW (op : Int) : Wd := (if 19 ≤ op then 1 else 3, signB op)
def Tr.wds : Tr → List Wd
  | .leaf t => if t.op = 1 then [(2, num t.n)] else if t.op = 2 then [(1, t.name)] else if t.op = 9 then [(1, bTrue)] else if t.op = 10 then [(1, bFalse)] else [(1, bIn), (3, [40]), (1, t.name), (3, [41])]
  | .one t a => if t.op = 3 then (3, [45]) :: brkW (levelI a.top.op) 7 a.wds else (1, bNot) :: brkW (levelI a.top.op) 3 a.wds
  | .two t a b => if t.op = 7 then (1, bMin) :: (3, [40]) :: (brkW (levelI a.top.op) 1 a.wds ++ (3, [44]) :: (brkW (levelI b.top.op) 1 b.wds ++ [(3, [41])]))
    else if t.op = 8 then (1, bMax) :: (3, [40]) :: (brkW (levelI a.top.op) 1 a.wds ++ (3, [44]) :: (brkW (levelI b.top.op) 1 b.wds ++ [(3, [41])]))
    else brkW (levelI a.top.op) (leftI t.op) a.wds ++ signW t.op :: brkW (levelI b.top.op) (levelI t.op + 1) b.wds
def Tr.putW (e : Tr) (least : Int) : List Wd := brkW (levelI e.top.op) least e.wds
/-- How the text of an expression begins. -/
def begC (c : UInt8) : Prop := lowC c = true ∨ figC c = true ∨ c = 40 ∨ c = 45
theorem begC_nb {c : UInt8} (h : begC c) : blank c.toNat = false ∧ c ≠ 35 ∧ c ≠ 61 ∧ c ≠ 62 := by
  rcases h with h | h | rfl | rfl
  · refine ⟨(lowC_nb h).1, (lowC_nb h).2, ?_, ?_⟩ <;> (rintro rfl; revert h; decide)
  · refine ⟨(figC_nb h).1, (figC_nb h).2, ?_, ?_⟩ <;> (rintro rfl; revert h; decide)
  · decide
  · decide
def begS (s : List UInt8) : Prop := ∃ c r, s = c :: r ∧ begC c
theorem begS.app {s : List UInt8} (h : begS s) (t : List UInt8) : begS (s ++ t) := by
  obtain ⟨c, r, rfl, h⟩ := h
  exact ⟨c, r ++ t, rfl, h⟩
theorem begS.nb {s : List UInt8} (h : begS s) : nbH s := by
  obtain ⟨c, r, rfl, h⟩ := h
  exact nbH_cons (begC_nb h).1 (begC_nb h).2.1 r
theorem begS.ne {s : List UInt8} (h : begS s) : ∀ d r, s = d :: r → d ≠ 61 ∧ d ≠ 62 := by
  obtain ⟨c, r, rfl, h⟩ := h
  rintro d q e
  cases e
  exact (begC_nb h).2.2
theorem begS.brk {s : List UInt8} (h : begS s) (k m : Int) : begS (brk k m s) := by
  unfold Ev.brk
  split
  · exact ⟨40, _, rfl, .inr (.inr (.inl rfl))⟩
  · exact h
theorem isDig_fig {c : UInt8} (h : isDig c) : figC c = true := by
  simp only [isDig] at h
  simp only [figC, Bool.and_eq_true, decide_eq_true_eq]
  omega
theorem num_pos {n : Int} (h : 0 ≤ n) : num n = dg n.natAbs := by unfold num; rw [if_neg (by omega)]
theorem num_fig {n : Int} (h : 0 ≤ n) : (∀ c ∈ num n, figC c = true) ∧ num n ≠ [] := by
  rw [num_pos h]
  exact ⟨fun c hc => isDig_fig (dg_dig _ c hc), dg_ne _⟩
theorem may_num {t : Tm} (h : t.may = true) (h1 : t.op = 1) : 0 ≤ t.n ∧ t.n ≤ 1000000 := by
  simp only [Tm.may, h1, if_true, Bool.and_eq_true, decide_eq_true_eq] at h
  exact ⟨h.1, h.2.1⟩
theorem may_name {t : Tm} (h : t.may = true) (h1 : t.op = 2 ∨ t.op = 11) : t.n = 0 ∧ isName t.name = true := by
  have : t.op ≠ 1 := by omega
  simp only [Tm.may, if_neg this, if_pos h1, Bool.and_eq_true, decide_eq_true_eq] at h
  exact h
theorem may_other {t : Tm} (h : t.may = true) (h1 : t.op ≠ 1) (h2 : ¬ (t.op = 2 ∨ t.op = 11)) : t = ⟨t.op, 0, []⟩ := by
  simp only [Tm.may, if_neg h1, if_neg h2, Bool.and_eq_true, decide_eq_true_eq] at h
  obtain ⟨op, n, s⟩ := t
  simp only at h ⊢
  rw [h.1, h.2]
theorem isName_beg {s : List UInt8} (h : isName s = true) : begS s := by
  obtain ⟨_, h2, h3, _⟩ := isName_word h
  cases s with
  | nil => exact absurd rfl h3
  | cons c r => exact ⟨c, r, rfl, .inl h2⟩
theorem txt_beg : ∀ (e : Tr), e.wf → (∀ t ∈ e.flat, t.may = true) → begS e.txt
  | .leaf t, hw, hm => by
    have ht := hm t (by simp [Tr.flat])
    simp only [Tr.txt]
    split
    · rename_i h1
      obtain ⟨f1, f2⟩ := num_fig (may_num ht h1).1
      cases hn : num t.n with
      | nil => exact absurd hn f2
      | cons c r => exact ⟨c, r, rfl, .inr (.inl (f1 c (by rw [hn]; simp)))⟩
    · split
      · rename_i h2
        exact isName_beg (may_name ht (.inl h2)).2
      · split
        · exact ⟨_, _, rfl, .inl (by decide)⟩
        · split
          · exact ⟨_, _, rfl, .inl (by decide)⟩
          · exact ⟨_, _, rfl, .inl (by decide)⟩
  | .one t a, hw, hm => by
    simp only [Tr.txt]
    split
    · exact ⟨_, _, rfl, .inr (.inr (.inr rfl))⟩
    · exact ⟨_, _, rfl, .inl (by decide)⟩
  | .two t a b, hw, hm => by
    have i1 := txt_beg a hw.2.1 (fun t ht => hm t (by simp [Tr.flat, ht]))
    simp only [Tr.txt]
    split
    · exact ⟨_, _, rfl, .inl (by decide)⟩
    · split
      · exact ⟨_, _, rfl, .inl (by decide)⟩
      · exact (i1.brk _ _).app _
theorem put_beg (e : Tr) (hw : e.wf) (hm : ∀ t ∈ e.flat, t.may = true) (k : Int) : begS (e.put k) := (txt_beg e hw hm).brk _ _
/-- Words of bytes that are told at once. -/
theorem key_sc {w : List UInt8} (h : w ∈ ([bTrue, bFalse, bIn, bNot, bMin, bMax, [97, 110, 100], [111, 114]] : List (List UInt8))) {s : List UInt8} {ws : List Wd} (hs : sepH s) (k : Sc s ws) : Sc (w ++ s) ((1, w) :: ws) := by
  refine .name ?_ ?_ ?_ ?_ hs k <;>
  · simp only [List.mem_cons, List.not_mem_nil, or_false] at h
    rcases h with rfl | rfl | rfl | rfl | rfl | rfl | rfl | rfl <;> decide
theorem brk_sc {x : List UInt8} {xs : List Wd} (h : ∀ s ws, sepH s → Sc s ws → Sc (x ++ s) (xs ++ ws)) (k m : Int) : ∀ s ws, sepH s → Sc s ws → Sc (brk k m x ++ s) (brkW k m xs ++ ws) := by
  intro s ws hs hk
  unfold brk brkW
  split
  · have := h (41 :: s) ((3, [41]) :: ws) (sepH_cons (by decide) s) (.m1 (by decide) hk)
    have := Sc.m1 (c := 40) (by decide) this
    simpa using this
  · exact h s ws hs hk
theorem sign_cases {x : Int} (h : arity x = 2) (h7 : x ≠ 7) (h8 : x ≠ 8) : x = 4 ∨ x = 5 ∨ x = 6 ∨ x = 13 ∨ x = 14 ∨ x = 15 ∨ x = 16 ∨ x = 17 ∨ x = 18 ∨ x = 19 ∨ x = 20 := by
  have := arity2 h
  omega
/-- A sign between blanks. -/
theorem sign_sc {x : Int} (h : arity x = 2) (h7 : x ≠ 7) (h8 : x ≠ 8) {s : List UInt8} {ws : List Wd} (hb : begS s) (k : Sc s ws) : Sc (32 :: (signB x ++ 32 :: s)) (signW x :: ws) := by
  have k1 : Sc (32 :: s) ws := .sp hb.nb k
  have sp : sepH (32 :: s) := sepH_cons (by decide) s
  have ne : ∀ d r, (32 : UInt8) :: s = d :: r → d ≠ 61 ∧ d ≠ 62 := by rintro d r e; cases e; decide
  rcases sign_cases h h7 h8 with rfl | rfl | rfl | rfl | rfl | rfl | rfl | rfl | rfl | rfl | rfl
  · exact .sp (nbH_cons (by decide) (by decide) _) (.m1 (by decide) k1)
  · exact .sp (nbH_cons (by decide) (by decide) _) (.m2 (by decide) ne k1)
  · exact .sp (nbH_cons (by decide) (by decide) _) (.m1 (by decide) k1)
  · exact .sp (nbH_cons (by decide) (by decide) _) (.mm (w := [61, 61]) (by decide) k1)
  · exact .sp (nbH_cons (by decide) (by decide) _) (.mm (w := [33, 61]) (by decide) k1)
  · exact .sp (nbH_cons (by decide) (by decide) _) (.m2 (by decide) ne k1)
  · exact .sp (nbH_cons (by decide) (by decide) _) (.mm (w := [60, 61]) (by decide) k1)
  · exact .sp (nbH_cons (by decide) (by decide) _) (.m2 (by decide) ne k1)
  · exact .sp (nbH_cons (by decide) (by decide) _) (.mm (w := [62, 61]) (by decide) k1)
  · exact .sp (nbH_cons (by decide) (by decide) _) (key_sc (w := [97, 110, 100]) (by decide) sp k1)
  · exact .sp (nbH_cons (by decide) (by decide) _) (key_sc (w := [111, 114]) (by decide) sp k1)
theorem txt_sc : ∀ (e : Tr), e.wf → (∀ t ∈ e.flat, t.may = true) → ∀ (s : List UInt8) (ws : List Wd), sepH s → Sc s ws → Sc (e.txt ++ s) (e.wds ++ ws)
  | .leaf t, hw, hm, s, ws, hs, k => by
    have ht := hm t (by simp [Tr.flat])
    simp only [Tr.txt, Tr.wds]
    by_cases h1 : t.op = 1
    · rw [if_pos h1, if_pos h1]
      obtain ⟨f1, f2⟩ := num_fig (may_num ht h1).1
      exact .num f1 f2 (by have := (may_bd ht).2 h1; omega) hs k
    · rw [if_neg h1, if_neg h1]
      by_cases h2 : t.op = 2
      · rw [if_pos h2, if_pos h2]
        exact isName_sc (may_name ht (.inl h2)).2 hs k
      · rw [if_neg h2, if_neg h2]
        by_cases h9 : t.op = 9
        · rw [if_pos h9, if_pos h9]
          exact key_sc (by decide) hs k
        · rw [if_neg h9, if_neg h9]
          by_cases h10 : t.op = 10
          · rw [if_pos h10, if_pos h10]
            exact key_sc (by decide) hs k
          · rw [if_neg h10, if_neg h10]
            have h11 : t.op = 11 := by have := arity0 hw; omega
            have a1 : Sc (41 :: s) ((3, [41]) :: ws) := .m1 (by decide) k
            have a2 := isName_sc (may_name ht (.inr h11)).2 (sepH_cons (by decide) s) a1
            have a3 := Sc.m1 (c := 40) (by decide) a2
            have a4 := key_sc (w := bIn) (by decide) (sepH_cons (by decide) _) a3
            simpa using a4
  | .one t a, hw, hm, s, ws, hs, k => by
    have ma : ∀ t ∈ a.flat, t.may = true := fun t ht => hm t (by simp [Tr.flat, ht])
    have ih := txt_sc a hw.2 ma
    simp only [Tr.txt, Tr.wds]
    by_cases h3 : t.op = 3
    · rw [if_pos h3, if_pos h3]
      have a1 := brk_sc ih (levelI a.top.op) 7 s ws hs k
      exact .m2 (by decide) (((txt_beg a hw.2 ma).brk _ _).app s).ne a1
    · rw [if_neg h3, if_neg h3]
      have a1 := brk_sc ih (levelI a.top.op) 3 s ws hs k
      have a2 := Sc.sp (((txt_beg a hw.2 ma).brk (levelI a.top.op) 3).app s).nb a1
      have a3 := key_sc (w := bNot) (by decide) (sepH_cons (by decide) _) a2
      simpa using a3
  | .two t a b, hw, hm, s, ws, hs, k => by
    have ma : ∀ t ∈ a.flat, t.may = true := fun t ht => hm t (by simp [Tr.flat, ht])
    have mb : ∀ t ∈ b.flat, t.may = true := fun t ht => hm t (by simp [Tr.flat, ht])
    have iha := txt_sc a hw.2.1 ma
    have ihb := txt_sc b hw.2.2 mb
    have two : ∀ w ∈ ([bMin, bMax] : List (List UInt8)), Sc (w ++ 40 :: (brk (levelI a.top.op) 1 a.txt ++ 44 :: 32 :: (brk (levelI b.top.op) 1 b.txt ++ [41] ++ s))) ((1, w) :: (3, [40]) :: (brkW (levelI a.top.op) 1 a.wds ++ (3, [44]) :: (brkW (levelI b.top.op) 1 b.wds ++ [(3, [41])] ++ ws))) := by
      intro w hw'
      have a1 : Sc (41 :: s) ((3, [41]) :: ws) := .m1 (by decide) k
      have a2 := brk_sc ihb (levelI b.top.op) 1 _ _ (sepH_cons (by decide) s) a1
      have a3 := Sc.sp (((txt_beg b hw.2.2 mb).brk (levelI b.top.op) 1).app _).nb a2
      have a4 := Sc.m1 (c := 44) (by decide) a3
      have a5 := brk_sc iha (levelI a.top.op) 1 _ _ (sepH_cons (by decide) _) a4
      have a6 := Sc.m1 (c := 40) (by decide) a5
      have a7 := key_sc (w := w) (by
        simp only [List.mem_cons, List.not_mem_nil, or_false] at hw'
        rcases hw' with rfl | rfl <;> decide) (sepH_cons (by decide) _) a6
      simpa using a7
    simp only [Tr.txt, Tr.wds]
    by_cases h7 : t.op = 7
    · rw [if_pos h7, if_pos h7]
      simpa using two bMin (by simp)
    · rw [if_neg h7, if_neg h7]
      by_cases h8 : t.op = 8
      · rw [if_pos h8, if_pos h8]
        simpa using two bMax (by simp)
      · rw [if_neg h8, if_neg h8]
        have a1 := brk_sc ihb (levelI b.top.op) (levelI t.op + 1) s ws hs k
        have a2 := sign_sc hw.1 h7 h8 (((txt_beg b hw.2.2 mb).brk (levelI b.top.op) (levelI t.op + 1)).app s) a1
        have a3 := brk_sc iha (levelI a.top.op) (leftI t.op) _ _ (sepH_cons (by decide) _) a2
        simpa using a3
theorem brkW_len (k m : Int) (ws : List Wd) : (brkW k m ws).length ≤ ws.length + 2 := by
  unfold brkW
  split <;> simp
theorem wds_len : ∀ (e : Tr), e.wds.length + 2 ≤ 8 * e.flat.length
  | .leaf t => by
    simp only [Tr.wds, Tr.flat, List.length_singleton]
    repeat (first | split | simp)
  | .one t a => by
    have := wds_len a
    have b1 := brkW_len (levelI a.top.op) 7 a.wds
    have b2 := brkW_len (levelI a.top.op) 3 a.wds
    simp only [Tr.wds, Tr.flat, List.length_cons]
    split <;> simp only [List.length_cons] <;> omega
  | .two t a b => by
    have i1 := wds_len a
    have i2 := wds_len b
    have b1 := brkW_len (levelI a.top.op) 1 a.wds
    have b2 := brkW_len (levelI b.top.op) 1 b.wds
    have b3 := brkW_len (levelI a.top.op) (leftI t.op) a.wds
    have b4 := brkW_len (levelI b.top.op) (levelI t.op + 1) b.wds
    simp only [Tr.wds, Tr.flat, List.length_cons, List.length_append]
    split
    · simp only [List.length_cons, List.length_append, List.length_nil]; omega
    · split <;> simp only [List.length_cons, List.length_append, List.length_nil] <;> omega
theorem Sc.len {s : List UInt8} {ws : List Wd} (h : Sc s ws) : ws.length ≤ s.length := by
  induction h with
  | nil => simp
  | @word k w s ws _ hne _ _ ih =>
    have : 0 < w.length := by cases w with
      | nil => exact absurd rfl hne
      | cons c r => simp
    simp only [List.length_cons, List.length_append]
    omega
  | gap _ _ _ ih => simp only [List.length_append]; omega
/-- A text whose words are known: it has tokens if these are not too many, and the text not too long. -/
theorem Sc.all {s : List UInt8} {ws : List Wd} (h : Sc s ws) : (Ev.tkE s = 0 ↔ (s.length ≤ 65536 ∧ ws.length ≤ 4000)) ∧ (Ev.tkE s = 0 → (Ev.tkL s).map Tk.kt = ws ++ [(0, [])]) := by
  have hw := h.len
  unfold Ev.tkE Ev.tkL
  by_cases h6 : 65536 < s.length
  · rw [if_pos h6]
    exact ⟨⟨fun e => (by cases e), fun e => (by omega)⟩, fun e => (by cases e)⟩
  · rw [if_neg h6, if_neg h6]
    by_cases h4 : ws.length ≤ 4000
    · obtain ⟨ts, w', h1, h2⟩ := h.toks (s.length + 1) [] ⟨s, 1, 1⟩ rfl (by omega) (by simpa using h4)
      have hx : tkX s = (ts, w', 0) := by unfold tkX; rw [h1]; rfl
      rw [hx]
      exact ⟨⟨fun _ => ⟨by omega, h4⟩, fun _ => rfl⟩, fun _ => by simp [h2, Tk.kt]⟩
    · have h1 := h.over (s.length + 1) [] ⟨s, 1, 1⟩ rfl (by omega) (by simp) (by simpa using h4)
      have hx : (tkX s).2.2 = 8 := h1
      rw [hx]
      exact ⟨⟨fun e => (by cases e), fun e => absurd e.2 h4⟩, fun e => (by cases e)⟩
/-- The tokens of an expression's text. -/
theorem txt_toks (e : Tr) (hw : e.wf) (hm : ∀ t ∈ e.flat, t.may = true) (hl : e.flat.length ≤ 40) : Ev.tkE e.txt = 0 ∧ (Ev.tkL e.txt).map Tk.kt = e.wds ++ [(0, [])] := by
  have h := txt_sc e hw hm [] [] (fun _ _ h => by cases h) .nil
  rw [List.append_nil, List.append_nil] at h
  have h1 := txt_len e hm
  have h2 := wds_len e
  exact h.tkL (by omega) (by omega) h.len
end Go.Proofs.YtckonoejmjblfaaGreatDoor.Ev

/- Layer 6: an expression's words are read as it. -/
set_option linter.unusedVariables false
set_option linter.unusedSimpArgs false
set_option maxRecDepth 100000
set_option maxHeartbeats 2000000
namespace Go.Proofs.YtckonoejmjblfaaGreatDoor.Ev
open Go Go.RowKit

/-- Which words a cursor has ahead. -/
def Ahd (c : Cu) (ws : List Wd) : Prop := c.e = 0 ∧ c.r.map Tk.kt = ws
theorem Ahd.cons {c : Cu} {k : Int} {t : List UInt8} {ws : List Wd} (h : Ahd c ((k, t) :: ws)) : c.e = 0 ∧ c.next.kind = k ∧ c.next.text = t ∧ Ahd c.on ws ∧ c.r.length = ws.length + 1 := by
  obtain ⟨he, h⟩ := h
  obtain ⟨p, r, ln, cl, e⟩ := c
  simp only at he h
  cases r with
  | nil => cases h
  | cons x r =>
    simp only [List.map_cons, List.cons.injEq, Tk.kt, Prod.mk.injEq] at h
    refine ⟨he, by simp [Cu.next, he, nx, h.1.1], by simp [Cu.next, he, nx, h.1.2], ⟨by simp [Cu.on, he], by simp only [Cu.on]; exact h.2⟩, ?_⟩
    rw [← h.2]
    simp
theorem Ahd.is {c : Cu} {k : Int} {t : List UInt8} {ws : List Wd} (h : Ahd c ((k, t) :: ws)) (k' : Int) (t' : List UInt8) : c.is k' t' = (decide (k = k') && decide (t = t')) := by
  obtain ⟨he, h1, h2, _⟩ := h.cons
  simp [Cu.is, he, h1, h2]
theorem Ahd.want {c : Cu} {k : Int} {t : List UInt8} {ws : List Wd} (h : Ahd c ((k, t) :: ws)) : c.want k t = c.on := by
  unfold Cu.want
  rw [h.is]
  simp
theorem Ahd.len {c : Cu} {ws : List Wd} (h : Ahd c ws) : c.r.length = ws.length := by rw [← h.2]; simp
def btwW (w : Wd) : Int := btw ⟨w.1, w.2, 0, 0⟩
/-- No sign of a level is next. -/
def Stp (k : Nat) (ws : List Wd) : Prop := ∀ w r, ws = w :: r → btwW w ≠ 0 → levelI (btwW w) < k
theorem Stp.mono {k m : Nat} {ws : List Wd} (h : Stp k ws) (hm : k ≤ m) : Stp m ws := fun w r e hb => by have := h w r e hb; omega
theorem Stp.of {k : Nat} {ws : List Wd} (h : Stp k ws) {c : Cu} (hc : Ahd c ws) : c.e = 0 → btw c.next ≠ 0 → levelI (btw c.next) < k := by
  intro he hb
  cases ws with
  | nil =>
    obtain ⟨_, hr⟩ := hc
    have hr : c.r = [] := by simpa using hr
    refine absurd ?_ hb
    unfold Cu.next btw
    rw [if_pos he, hr]
    simp [nx, was_kind]
  | cons w r =>
    obtain ⟨_, h1, h2, _⟩ := hc.cons (k := w.1) (t := w.2)
    have : btw c.next = btwW w := by unfold btwW btw; rw [h1, h2]
    rw [this] at hb ⊢
    exact h w r rfl hb
theorem Stp.top {ws : List Wd} : Stp 7 ws := fun w r _ hb => by
  have := btw_level (t := ⟨w.1, w.2, 0, 0⟩) hb
  unfold btwW
  omega
theorem Stp.no {w : Wd} (h : btwW w = 0) (k : Nat) (r : List Wd) : Stp k (w :: r) := fun v q e hb => by cases e; exact absurd h hb
theorem btw_sgn {x : Int} (h : arity x = 2) (h7 : x ≠ 7) (h8 : x ≠ 8) : btwW (signW x) = x := by
  rcases sign_cases h h7 h8 with rfl | rfl | rfl | rfl | rfl | rfl | rfl | rfl | rfl | rfl | rfl <;> decide
theorem level_sign {x : Int} (h : arity x = 2) (h7 : x ≠ 7) (h8 : x ≠ 8) : levelI x = 1 ∨ levelI x = 2 ∨ levelI x = 4 ∨ levelI x = 5 ∨ levelI x = 6 := by
  rcases sign_cases h h7 h8 with rfl | rfl | rfl | rfl | rfl | rfl | rfl | rfl | rfl | rfl | rfl <;> simp [levelI]
/-- Up to which level signs may go on behind an expression without brackets. -/
def qOf (x : Int) : Nat := if levelI x = 8 then 7 else if levelI x = 7 then 6 else if levelI x = 4 then 3 else if levelI x = 3 then 2 else (levelI x).toNat
def UTh (e : Tr) : Prop := ∀ (k n : Nat) (c : Cu) (ws : List Wd), 1 ≤ k → (k : Int) ≤ levelI e.top.op → c.r.length < n + 1 → Ahd c (e.wds ++ ws) → Stp (qOf e.top.op + 1) ws →
  ∃ d, Ahd d ws ∧ lvN (n + 1) k c = hP (lvN n) (n + 1) k (qOf e.top.op) d e.flat
theorem level_rng (x : Int) : 1 ≤ levelI x ∧ levelI x ≤ 8 := by
  unfold levelI
  repeat' split
  all_goals omega
theorem qOf_ge {x : Int} {k : Nat} (h : (k : Int) ≤ levelI x) : k ≤ qOf x + 1 := by
  have := level_rng x
  unfold qOf
  repeat' split
  all_goals omega
theorem lvN_ge8 (n k : Nat) (c : Cu) (hk : 1 ≤ k) (hk8 : k ≤ 8) (he : c.e = 0) : lvN (n + 1) k c =
    (if k ≤ 3 ∧ c.is 1 bNot then hP (lvN n) (n + 1) k 2 (lvN n 3 c.on).1 (over 12 (lvN n 3 c.on).2 [])
     else if k ≤ 7 ∧ c.is 3 [45] then hP (lvN n) (n + 1) k 6 (lvN n 7 c.on).1 (over 3 (lvN n 7 c.on).2 [])
     else hP (lvN n) (n + 1) k 7 (atomP (lvN n) c).1 (atomP (lvN n) c).2) := by
  have h := lvP_eq (rec := lvN n) (n + 1) c he (8 - k) (by omega)
  rw [show 8 - (8 - k) = k by omega] at h
  exact h
/-- An expression is read at any level where it needs no brackets. -/
theorem UTh.plain {e : Tr} (h : UTh e) {k n : Nat} {c : Cu} {ws : List Wd} (h1 : 1 ≤ k) (h2 : (k : Int) ≤ levelI e.top.op) (h3 : c.r.length < n) (h4 : Ahd c (e.wds ++ ws)) (h5 : Stp k ws) : ∃ d, Ahd d ws ∧ lvN n k c = (d, e.flat) := by
  obtain ⟨m, rfl⟩ : ∃ m, n = m + 1 := ⟨n - 1, by omega⟩
  obtain ⟨d, d1, d2⟩ := h k m c ws h1 h2 h3 h4 (h5.mono (qOf_ge h2))
  refine ⟨d, d1, ?_⟩
  rw [d2, hP_stop]
  intro he hb
  exact .inl (h5.of d1 he hb)
/-- In brackets it is read at every level. -/
theorem UTh.brack {e : Tr} (h : UTh e) {k n : Nat} {c : Cu} {ws : List Wd} (h1 : 1 ≤ k) (h2 : k ≤ 8) (h3 : c.r.length < n + 1) (h4 : Ahd c ((3, [40]) :: (e.wds ++ (3, [41]) :: ws))) :
    ∃ d, Ahd d ws ∧ lvN (n + 1) k c = hP (lvN n) (n + 1) k 7 d e.flat := by
  obtain ⟨he, k1, k2, ha, hl⟩ := h4.cons
  have hon : c.on.r.length < n := by rw [ha.len]; omega
  obtain ⟨d, d1, d2⟩ := h.plain (k := 1) (by omega) (level_rng _).1 hon ha (Stp.no (by decide) 1 ws)
  obtain ⟨_, _, _, d3, _⟩ := d1.cons
  refine ⟨d.on, d3, ?_⟩
  have e1 : c.is 1 bNot = false := by rw [h4.is]; decide
  have e2 : c.is 3 [45] = false := by rw [h4.is]; decide
  have e3 : c.is 3 [40] = true := by rw [h4.is]; decide
  have ea : atomP (lvN n) c = (d.on, e.flat) := by
    unfold atomP
    rw [if_neg (by rw [k1]; decide), if_pos e3, d2, d1.want]
  rw [lvN_ge8 n k c h1 h2 he, e1, e2, ea, if_neg (by simp), if_neg (by simp)]
/-- As it is put at a level, it is read at that level. -/
theorem UTh.read {e : Tr} (h : UTh e) {k n : Nat} {c : Cu} {ws : List Wd} (h1 : 1 ≤ k) (h2 : k ≤ 8) (h3 : c.r.length < n) (h4 : Ahd c (e.putW k ++ ws)) (h5 : Stp k ws) : ∃ d, Ahd d ws ∧ lvN n k c = (d, e.flat) := by
  unfold Tr.putW brkW at h4
  by_cases hk : levelI e.top.op < k
  · rw [if_pos hk] at h4
    simp only [List.cons_append, List.append_assoc, List.nil_append] at h4
    obtain ⟨m, rfl⟩ : ∃ m, n = m + 1 := ⟨n - 1, by omega⟩
    obtain ⟨d, d1, d2⟩ := h.brack h1 h2 h3 h4
    refine ⟨d, d1, ?_⟩
    rw [d2, hP_stop]
    intro he hb
    exact .inl (h5.of d1 he hb)
  · rw [if_neg hk] at h4
    exact h.plain h1 (by omega) h3 h4 h5
/-- As it is put at a level, it is read at a lower one up to what comes behind. -/
theorem UTh.lower {e : Tr} (h : UTh e) {k m n : Nat} {c : Cu} {ws : List Wd} (h1 : 1 ≤ k) (hkm : k ≤ m) (h2 : m ≤ 8) (h3 : c.r.length < n + 1) (h4 : Ahd c (e.putW m ++ ws)) (h5 : (m : Int) ≤ levelI e.top.op → Stp (qOf e.top.op + 1) ws) :
    ∃ d, Ahd d ws ∧ lvN (n + 1) k c = hP (lvN n) (n + 1) k (if levelI e.top.op < m then 7 else qOf e.top.op) d e.flat := by
  unfold Tr.putW brkW at h4
  by_cases hk : levelI e.top.op < m
  · rw [if_pos hk] at h4 ⊢
    simp only [List.cons_append, List.append_assoc, List.nil_append] at h4
    exact h.brack h1 (by omega) h3 h4
  · rw [if_neg hk] at h4 ⊢
    exact h k n c ws h1 (by omega) h3 h4 (h5 (by omega))
theorem isName_key {s : List UInt8} (h : isName s = true) : s ≠ bTrue ∧ s ≠ bFalse ∧ s ≠ bIn ∧ s ≠ bMin ∧ s ≠ bMax ∧ s ≠ bNot := by
  have hk := (isName_word h).2.2.2.2
  refine ⟨?_, ?_, ?_, ?_, ?_, ?_⟩ <;> (rintro rfl; exact hk (by decide))
theorem num_numOf {n : Int} (h : 0 ≤ n ∧ n ≤ 1000000) : numOf (num n) = (n, 0) := by
  rcases getR_num n with ⟨_, h2⟩ | ⟨h2, _⟩
  · simp [numOf, h2]
  · exact absurd h h2
theorem U_leaf (t : Tm) (hw : arity t.op = 0) (ht : t.may = true) : UTh (.leaf t) := by
  intro k n c ws h1 h2 h3 h4 h5
  have lv : levelI t.op = 8 := by rcases arity0 hw with e | e | e | e | e <;> rw [e] <;> rfl
  have hq : qOf t.op = 7 := by unfold qOf; rw [if_pos lv]
  simp only [Tr.top] at h2 h5 ⊢
  rw [lv] at h2
  rw [hq]
  have hk8 : k ≤ 8 := by omega
  suffices h : ∃ d, Ahd d ws ∧ atomP (lvN n) c = (d, [t]) ∧ c.e = 0 ∧ c.is 1 bNot = false ∧ c.is 3 [45] = false by
    obtain ⟨d, d1, d2, he, e1, e2⟩ := h
    refine ⟨d, d1, ?_⟩
    rw [lvN_ge8 n k c h1 hk8 he, e1, e2, d2, if_neg (by simp), if_neg (by simp)]
    rfl
  simp only [Tr.wds] at h4
  by_cases o1 : t.op = 1
  · rw [if_pos o1] at h4
    obtain ⟨he, k1, k2, ha, hl⟩ := h4.cons
    have hn := may_num ht o1
    have ht' : t = ⟨1, t.n, []⟩ := by
      simp only [Tm.may, o1, if_true, Bool.and_eq_true, decide_eq_true_eq] at ht
      obtain ⟨op, x, s⟩ := t
      simp only at o1 ht ⊢
      rw [o1, ht.2.2]
    refine ⟨c.on, ha, ?_, he, by rw [h4.is]; simp, by rw [h4.is]; simp⟩
    unfold atomP Cu.number
    rw [if_pos k1, k1, k2, num_numOf hn, if_pos ⟨he, rfl⟩]
    simp only [if_true]
    rw [if_neg (by omega)]
    simp only
    rw [← ht']
  · rw [if_neg o1] at h4
    by_cases o2 : t.op = 2
    · rw [if_pos o2] at h4
      obtain ⟨he, k1, k2, ha, hl⟩ := h4.cons
      obtain ⟨n0, nm⟩ := may_name ht (.inl o2)
      obtain ⟨g1, g2, g3, g4, g5, g6⟩ := isName_key nm
      have ht' : t = ⟨2, 0, t.name⟩ := by
        obtain ⟨op, x, s⟩ := t
        simp only at o2 n0 ⊢
        rw [o2, n0]
      refine ⟨c.on, ha, ?_, he, by rw [h4.is]; simp [g6], by rw [h4.is]; simp⟩
      unfold atomP
      rw [if_neg (by rw [k1]; decide), if_neg (by rw [h4.is]; simp), if_neg (by rw [k1]; decide), k2, if_neg g1, if_neg g2, if_neg g3, if_neg g4, if_neg g5, if_pos nm, ← ht']
    · rw [if_neg o2] at h4
      by_cases o9 : t.op = 9
      · rw [if_pos o9] at h4
        obtain ⟨he, k1, k2, ha, hl⟩ := h4.cons
        have ht' := may_other ht (by omega) (by omega)
        rw [o9] at ht'
        refine ⟨c.on, ha, ?_, he, by rw [h4.is]; simp, by rw [h4.is]; simp⟩
        unfold atomP
        rw [if_neg (by rw [k1]; decide), if_neg (by rw [h4.is]; simp), if_neg (by rw [k1]; decide), k2, if_pos rfl, ← ht']
      · rw [if_neg o9] at h4
        by_cases o10 : t.op = 10
        · rw [if_pos o10] at h4
          obtain ⟨he, k1, k2, ha, hl⟩ := h4.cons
          have ht' := may_other ht (by omega) (by omega)
          rw [o10] at ht'
          refine ⟨c.on, ha, ?_, he, by rw [h4.is]; simp, by rw [h4.is]; simp⟩
          unfold atomP
          rw [if_neg (by rw [k1]; decide), if_neg (by rw [h4.is]; simp), if_neg (by rw [k1]; decide), k2, if_neg (by decide), if_pos rfl, ← ht']
        · rw [if_neg o10] at h4
          have o11 : t.op = 11 := by have := arity0 hw; omega
          simp only [List.cons_append, List.nil_append] at h4
          obtain ⟨he, k1, k2, ha, hl⟩ := h4.cons
          obtain ⟨n0, nm⟩ := may_name ht (.inr o11)
          have ht' : t = ⟨11, 0, t.name⟩ := by
            obtain ⟨op, x, s⟩ := t
            simp only at o11 n0 ⊢
            rw [o11, n0]
          obtain ⟨_, _, _, hb, _⟩ := ha.cons
          obtain ⟨be, b1, b2, hd, _⟩ := hb.cons
          obtain ⟨_, _, _, hf, _⟩ := hd.cons
          refine ⟨c.on.on.on.on, hf, ?_, he, by rw [h4.is]; simp, by rw [h4.is]; simp⟩
          have hnm : c.on.on.name = (c.on.on.on, t.name) := by
            unfold Cu.name Cu.named
            rw [if_pos (by simp [be, b1, b2, nm]), b2]
          unfold atomP
          rw [if_neg (by rw [k1]; decide), if_neg (by rw [h4.is]; simp), if_neg (by rw [k1]; decide), k2, if_neg (by decide), if_neg (by decide), if_pos rfl, ha.want, hnm, hd.want, ← ht']
theorem U_one (t : Tm) (a : Tr) (hw : arity t.op = 1) (ht : t.may = true) (ha : UTh a) : UTh (.one t a) := by
  intro k n c ws h1 h2 h3 h4 h5
  simp only [Tr.top] at h2 h5 ⊢
  simp only [Tr.wds] at h4
  have ht' := may_other ht (by rcases arity1 hw with e | e <;> omega) (by rcases arity1 hw with e | e <;> omega)
  rcases arity1 hw with o | o
  · rw [o] at h2 h5 ht' ⊢
    rw [if_pos o] at h4
    simp only [show levelI 3 = 7 from rfl] at h2
    rw [List.cons_append] at h4
    obtain ⟨he, k1, k2, hh, hl⟩ := h4.cons
    obtain ⟨d, d1, d2⟩ := ha.read (k := 7) (by omega) (by omega) (n := n) (by rw [hh.len]; omega) hh Stp.top
    refine ⟨d, d1, ?_⟩
    rw [lvN_ge8 n k c h1 (by omega) he, if_neg (by rw [h4.is]; simp), if_pos ⟨by omega, by rw [h4.is]; decide⟩, d2]
    simp only [Tr.flat, over, List.append_nil]
    rw [ht']
    rfl
  · rw [o] at h2 h5 ht' ⊢
    rw [if_neg (by omega)] at h4
    simp only [show levelI 12 = 3 from rfl] at h2
    rw [List.cons_append] at h4
    obtain ⟨he, k1, k2, hh, hl⟩ := h4.cons
    obtain ⟨d, d1, d2⟩ := ha.read (k := 3) (by omega) (by omega) (n := n) (by rw [hh.len]; omega) hh h5
    refine ⟨d, d1, ?_⟩
    rw [lvN_ge8 n k c h1 (by omega) he, if_pos ⟨by omega, by rw [h4.is]; decide⟩, d2]
    simp only [Tr.flat, over, List.append_nil]
    rw [ht']
    rfl
theorem U_mm (t : Tm) (a b : Tr) (ho : t.op = 7 ∨ t.op = 8) (ht : t.may = true) (ha : UTh a) (hb : UTh b) : UTh (.two t a b) := by
  intro k n c ws h1 h2 h3 h4 h5
  simp only [Tr.top] at h2 h5 ⊢
  have ht' := may_other ht (by omega) (by omega)
  have lv : levelI t.op = 8 := by rcases ho with e | e <;> rw [e] <;> rfl
  have hq : qOf t.op = 7 := by unfold qOf; rw [if_pos lv]
  rw [lv] at h2
  rw [hq]
  obtain ⟨w, hw⟩ : ∃ w, w = if t.op = 7 then bMin else bMax := ⟨_, rfl⟩
  have h4 : Ahd c ((1, w) :: (3, [40]) :: (a.putW 1 ++ (3, [44]) :: (b.putW 1 ++ (3, [41]) :: ws))) := by
    rcases ho with o | o
    · rw [o] at hw
      simp only [if_true] at hw
      subst hw
      simp only [Tr.wds, if_pos o] at h4
      simpa [Tr.putW] using h4
    · rw [o, if_neg (by decide)] at hw
      subst hw
      simp only [Tr.wds, if_neg (show ¬ t.op = 7 by omega), if_pos o] at h4
      simpa [Tr.putW] using h4
  have hw2 : w = bMin ∨ w = bMax := by rcases ho with o | o <;> (rw [o] at hw; simp at hw; simp [hw])
  obtain ⟨he, k1, k2, j1, hl⟩ := h4.cons
  obtain ⟨_, _, _, j2, _⟩ := j1.cons
  have l2 := j2.len
  have l1 := j1.len
  simp only [List.length_cons, List.length_append] at l1 l2 hl
  obtain ⟨d, d1, d2⟩ := ha.read (k := 1) (by omega) (by omega) (n := n) (by omega) j2 (Stp.no (by decide) 1 _)
  obtain ⟨_, _, _, j3, _⟩ := d1.cons
  have l3 := j3.len
  obtain ⟨f, f1, f2⟩ := hb.read (k := 1) (by omega) (by omega) (n := n) (by rw [l3, List.length_append, List.length_cons]; omega) j3 (Stp.no (by decide) 1 _)
  obtain ⟨_, _, _, j4, _⟩ := f1.cons
  have tw : ∀ op, twoP (lvN n) op c.on = (f.on, over op a.flat b.flat) := by
    intro op
    unfold twoP
    simp only
    rw [j1.want, d2]
    simp only
    rw [d1.want, f2]
    simp only
    rw [f1.want]
  refine ⟨f.on, j4, ?_⟩
  have ea : atomP (lvN n) c = (f.on, over t.op a.flat b.flat) := by
    unfold atomP
    rw [if_neg (by rw [k1]; decide), if_neg (by rw [h4.is]; simp), if_neg (by rw [k1]; decide), k2]
    rcases ho with o | o
    · have : w = bMin := by rw [hw, if_pos o]
      subst this
      rw [if_neg (by decide), if_neg (by decide), if_neg (by decide), if_pos rfl, tw, o]
    · have : w = bMax := by rw [hw, if_neg (by omega)]
      subst this
      rw [if_neg (by decide), if_neg (by decide), if_neg (by decide), if_neg (by decide), if_pos rfl, tw, o]
  rw [lvN_ge8 n k c h1 (by omega) he, if_neg (by rw [h4.is]; rcases hw2 with e | e <;> rw [e] <;> simp), if_neg (by rw [h4.is]; simp), ea]
  simp only [Tr.flat, over]
  rw [← ht']
theorem qOf_left {x y : Int} (hy : arity y = 2) (h7 : y ≠ 7) (h8 : y ≠ 8) (h : leftI y ≤ levelI x) : levelI y ≤ qOf x := by
  have h1 := level_sign hy h7 h8
  have h2 := level_rng x
  unfold leftI at h
  unfold qOf
  split at h
  · repeat' split
    all_goals omega
  · repeat' split
    all_goals omega
theorem leftI_ge (y : Int) : levelI y ≤ leftI y ∧ (levelI y = 4 → leftI y = 5) ∧ (levelI y ≠ 4 → leftI y = levelI y) := by
  unfold leftI
  split <;> omega
theorem U_two (t : Tm) (a b : Tr) (hw : arity t.op = 2) (h7 : t.op ≠ 7) (h8 : t.op ≠ 8) (ht : t.may = true) (ha : UTh a) (hb : UTh b) : UTh (.two t a b) := by
  intro k n c ws h1 h2 h3 h4 h5
  simp only [Tr.top] at h2 h5 ⊢
  have h2' := arity2 hw
  have ht' := may_other ht (by omega) (by omega)
  have hlv := level_sign hw h7 h8
  obtain ⟨L, hL⟩ : ∃ L : Nat, levelI t.op = L := ⟨(levelI t.op).toNat, by omega⟩
  obtain ⟨F, hF⟩ : ∃ F : Nat, leftI t.op = F := ⟨(leftI t.op).toNat, by have := leftI_ge t.op; omega⟩
  have hLF := leftI_ge t.op
  simp only [Tr.wds, if_neg h7, if_neg h8, List.append_assoc, List.cons_append] at h4
  have h4 : Ahd c (a.putW F ++ signW t.op :: (b.putW (L + 1 : Nat) ++ ws)) := by
    have e1 : a.putW F = brkW (levelI a.top.op) (leftI t.op) a.wds := by rw [hF]; rfl
    have e2 : b.putW (L + 1 : Nat) = brkW (levelI b.top.op) (levelI t.op + 1) b.wds := by rw [hL]; rfl
    rw [e1, e2]
    exact h4
  have hq : qOf t.op = if L = 4 then 3 else L := by
    unfold qOf
    repeat' split
    all_goals omega
  obtain ⟨d, d1, d2⟩ := ha.lower (k := k) (m := F) h1 (by omega) (by omega) h3 h4 (by
    intro hm
    have := qOf_left (x := a.top.op) hw h7 h8 (by rw [hF]; exact hm)
    intro w r e hbw
    cases e
    rw [btw_sgn hw h7 h8]
    omega)
  have dl := d1.len
  have cl := h4.len
  simp only [List.length_append, List.length_cons] at dl cl
  obtain ⟨he, k1, k2, j1, jl⟩ := d1.cons (k := (signW t.op).1) (t := (signW t.op).2)
  have hbt : btw d.next = t.op := by
    have := btw_sgn hw h7 h8
    unfold btwW btw at this
    unfold btw
    rw [k1, k2]
    exact this
  have l1 := j1.len
  simp only [List.length_append] at l1
  obtain ⟨f, f1, f2⟩ := hb.read (k := L + 1) (by omega) (by omega) (n := n) (by omega) j1 (h5.mono (by rw [hq]; split <;> omega))
  refine ⟨f, f1, ?_⟩
  have hq2 : L ≤ if levelI a.top.op < F then 7 else qOf a.top.op := by
    split
    · omega
    · have := qOf_left (x := a.top.op) hw h7 h8 (by omega)
      omega
  rw [d2, hP_step (lvN_fine n) (least := k) (by omega) _ d a.flat L he (by rw [hbt]; omega) (by rw [hbt]; exact hL) (by omega) hq2 (by omega), f2, hbt, hq]
  simp only [Tr.flat, over]
  rw [← ht']
theorem U_all : ∀ (e : Tr), e.wf → (∀ t ∈ e.flat, t.may = true) → UTh e
  | .leaf t, hw, hm => U_leaf t hw (hm t (by simp [Tr.flat]))
  | .one t a, hw, hm => U_one t a hw.1 (hm t (by simp [Tr.flat])) (U_all a hw.2 fun t ht => hm t (by simp [Tr.flat, ht]))
  | .two t a b, hw, hm => by
    have ia := U_all a hw.2.1 fun t ht => hm t (by simp [Tr.flat, ht])
    have ib := U_all b hw.2.2 fun t ht => hm t (by simp [Tr.flat, ht])
    have ht := hm t (by simp [Tr.flat])
    by_cases h7 : t.op = 7
    · exact U_mm t a b (.inl h7) ht ia ib
    · by_cases h8 : t.op = 8
      · exact U_mm t a b (.inr h8) ht ia ib
      · exact U_two t a b hw.1 h7 h8 ht ia ib
/-- An expression's text is parsed as it. -/
theorem parsP_txt (e : Tr) (hw : e.wf) (hm : ∀ t ∈ e.flat, t.may = true) (hl : e.flat.length ≤ 40) (hd : e.dep ≤ 12) : parsP e.txt = (e.flat, 0) := by
  obtain ⟨t1, t2⟩ := txt_toks e hw hm hl
  have ha : Ahd (⟨[], tkL e.txt, 0, 0, 0⟩ : Cu) (e.wds ++ [(0, [])]) := ⟨rfl, t2⟩
  obtain ⟨d, d1, d2⟩ := (U_all e hw hm).plain (k := 1) (n := (tkL e.txt).length + 1) (by omega) (level_rng _).1 (by simp) ha (Stp.no (by decide) 1 [])
  have hr : readP ⟨[], tkL e.txt, 0, 0, 0⟩ = (d, e.flat) := by
    unfold readP
    simp only
    rw [d2]
    simp only
    rw [if_pos d1.1, if_neg (by omega), depV_flat hw, if_neg (by omega), if_pos d1.1]
  unfold parsP
  rw [if_pos t1]
  simp only
  rw [hr]
  simp only
  obtain ⟨_, _, _, j, _⟩ := d1.cons
  rw [d1.want, if_pos j.1]
/-- What is parsed has a text that is parsed as it. -/
theorem parsP_ok {s : List UInt8} (h : (parsP s).2 = 0) : ∃ e : Tr, e.wf ∧ (parsP s).1 = e.flat ∧ (∀ t ∈ e.flat, t.may = true) ∧ e.flat.length ≤ 40 ∧ e.dep ≤ 12 := by
  unfold parsP at h ⊢
  split at h
  · rename_i h0
    rw [if_pos h0]
    simp only at h ⊢
    split at h
    · rename_i h1
      rw [if_pos h1]
      have h2 := (Cu.want_e h1).2
      have hsd := lvN_sd ((tkL s).length + 1) 1 ⟨[], tkL s, 0, 0, 0⟩ (by simp)
      unfold readP at h2 ⊢
      simp only at h2 ⊢
      generalize lvN ((tkL s).length + 1) 1 ⟨[], tkL s, 0, 0, 0⟩ = x at hsd h2 ⊢
      by_cases hx : x.1.e = 0
      · rw [if_pos hx] at h2 ⊢
        obtain ⟨e, e1, e2, e3⟩ := hsd hx
        by_cases h40 : 40 < x.2.length
        · rw [if_pos h40] at h2
          exact absurd h2 (Cu.fail_e (by decide))
        · rw [if_neg h40] at h2 ⊢
          by_cases h12 : 12 < depV x.2
          · rw [if_pos h12] at h2
            exact absurd h2 (Cu.fail_e (by decide))
          · rw [if_neg h12] at h2 ⊢
            rw [if_pos hx]
            refine ⟨e, e1, e2, e2 ▸ e3, by rw [← e2]; omega, ?_⟩
            rw [← depV_eq e1 e2]
            omega
      · rw [if_neg hx] at h2
        exact absurd h2 hx
    · rename_i h1
      exact absurd h h1
  · rename_i h0
    exact absurd h h0
end Go.Proofs.YtckonoejmjblfaaGreatDoor.Ev
