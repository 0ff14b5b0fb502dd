/- Layer 6: which expression is next, level by level: the plain words. -/
import Derived.Test.YtckonoejmjblfaaGreatPkTre
import Derived.Test.YtckonoejmjblfaaGreatPkCur
import Derived.Test.YtckonoejmjblfaaGreatPkTrmB
import Derived.Test.YtckonoejmjblfaaGreatPkLib
import Derived.Test.YtckonoejmjblfaaGreatPkNum
import Derived.Test.YtckonoejmjblfaaGreatPkTrmC
set_option linter.unusedVariables false
set_option linter.unusedSimpArgs false
namespace Go.Proofs.YtckonoejmjblfaaGreat.Ev
open Go Go.RowKit

def over (op : Int) (a b : List Tm) : List Tm := ⟨op, 0, []⟩ :: (a ++ b)
/-- The term whose sign is next; 0: none is. -/
def btw (t : Tk) : Int := if t.kind = 3 ∨ t.kind = 1 then ((([4, 5, 6, 7, 8, 9, 10, 11, 12, 13, 14, 15, 16, 17, 18, 19, 20] : List Int).find? fun op => decide (signB op ≠ []) && decide (signB op = t.text))).getD 0 else 0
abbrev bNot : List UInt8 := [110, 111, 116]
abbrev bTrue : List UInt8 := [116, 114, 117, 101]
abbrev bFalse : List UInt8 := [102, 97, 108, 115, 101]
abbrev bIn : List UInt8 := [105, 110]
abbrev bMin : List UInt8 := [109, 105, 110]
abbrev bMax : List UInt8 := [109, 97, 120]
def twoP (rec : Nat → Cu → Cu × List Tm) (op : Int) (c : Cu) : Cu × List Tm :=
  let a := rec 1 (c.want 3 [40])
  let b := rec 1 (a.1.want 3 [44])
  (b.1.want 3 [41], over op a.2 b.2)
def atomP (rec : Nat → Cu → Cu × List Tm) (c : Cu) : Cu × List Tm :=
  if c.next.kind = 2 then ((c.number 1000000).1, [⟨1, (c.number 1000000).2, []⟩])
  else if c.is 3 [40] then ((rec 1 c.on).1.want 3 [41], (rec 1 c.on).2)
  else if c.next.kind ≠ 1 then (c.fail 2, [])
  else if c.next.text = bTrue then (c.on, [⟨9, 0, []⟩])
  else if c.next.text = bFalse then (c.on, [⟨10, 0, []⟩])
  else if c.next.text = bIn then ((c.on.want 3 [40]).name.1.want 3 [41], [⟨11, 0, (c.on.want 3 [40]).name.2⟩])
  else if c.next.text = bMin then twoP rec 7 c.on
  else if c.next.text = bMax then twoP rec 8 c.on
  else if isName c.next.text then (c.on, [⟨2, 0, c.next.text⟩])
  else (c.fail 2, [])
def lpP (rec : Nat → Cu → Cu × List Tm) (k : Nat) : Nat → Cu → List Tm → Cu × List Tm
  | 0, c, l => (c, l)
  | n + 1, c, l =>
    if c.e = 0 ∧ btw c.next ≠ 0 ∧ levelI (btw c.next) = k then
      if k = 4 then ((rec (k + 1) c.on).1, over (btw c.next) l (rec (k + 1) c.on).2)
      else lpP rec k n (rec (k + 1) c.on).1 (over (btw c.next) l (rec (k + 1) c.on).2)
    else (c, l)
def lvP (rec : Nat → Cu → Cu × List Tm) (n : Nat) : Nat → Cu → Cu × List Tm
  | 0, c => if c.e ≠ 0 then (c, []) else atomP rec c
  | j + 1, c =>
    if c.e ≠ 0 then (c, [])
    else if 7 - j = 3 ∧ c.is 1 bNot then ((rec 3 c.on).1, over 12 (rec 3 c.on).2 [])
    else if 7 - j = 7 ∧ c.is 3 [45] then ((rec 7 c.on).1, over 3 (rec 7 c.on).2 [])
    else lpP rec (7 - j) n (lvP rec n j c).1 (lvP rec n j c).2
/-- The expression of a level that is next, if fewer than n tokens are left. -/
def lvN : Nat → Nat → Cu → Cu × List Tm
  | 0, _, c => (c, [])
  | n + 1, k, c => lvP (lvN n) (n + 1) (8 - k) c

theorem Cu.on_r (c : Cu) : c.on.r = c.r.tail := by unfold Cu.on; split <;> simp_all
theorem Cu.fail_r (c : Cu) (e : Int) : (c.fail e).r = c.r := by unfold Cu.fail; split <;> rfl
theorem was_text (p : List Tk) : (was p).text = [] := by unfold was; split <;> rfl
theorem was_kind (p : List Tk) : (was p).kind = 0 := by unfold was; split <;> rfl
theorem Cu.next_real {c : Cu} (h : c.next.text ≠ [] ∨ c.next.kind ≠ 0) : c.e = 0 ∧ c.on.r.length + 1 = c.r.length := by
  unfold Cu.next at h
  split at h
  · rename_i he
    refine ⟨he, ?_⟩
    rw [Cu.on_r]
    cases hr : c.r with
    | nil => rw [hr] at h; simp [nx, was_text, was_kind] at h
    | cons t r => simp
  · simp [tk0] at h
theorem Cu.is_real {c : Cu} {k : Int} {t : List UInt8} (h : c.is k t = true) (ht : t ≠ []) : c.e = 0 ∧ c.on.r.length + 1 = c.r.length := by
  simp only [Cu.is, Bool.and_eq_true, decide_eq_true_eq] at h
  exact Cu.next_real (.inl (by rw [h.2.2]; exact ht))
/-- A cursor that has gone on from another one. -/
def Cu.Le (d c : Cu) : Prop := (c.Ok → d.Ok) ∧ d.r.length ≤ c.r.length
theorem Cu.Le.refl (c : Cu) : c.Le c := ⟨id, Nat.le_refl _⟩
theorem Cu.Le.trans {a b c : Cu} (h : a.Le b) (k : b.Le c) : a.Le c := ⟨fun x => h.1 (k.1 x), Nat.le_trans h.2 k.2⟩
theorem Cu.on_le (c : Cu) : c.on.Le c := ⟨Cu.Ok.on, by rw [Cu.on_r]; simp⟩
theorem Cu.fail_le (c : Cu) (e : Int) : (c.fail e).Le c := ⟨fun h => h.fail e, by rw [Cu.fail_r]; exact Nat.le_refl _⟩
theorem Cu.want_le (c : Cu) (k : Int) (t : List UInt8) : (c.want k t).Le c := by unfold Cu.want; split; exact c.on_le; exact c.fail_le 2
theorem Cu.name_le (c : Cu) : c.name.1.Le c := by unfold Cu.name; split; exact c.on_le; exact c.fail_le 2
theorem Cu.number_le (c : Cu) (m : Int) : (c.number m).1.Le c := by
  unfold Cu.number
  split
  · split
    · split
      · exact c.fail_le _
      · exact c.on_le
    · exact c.fail_le _
  · exact c.fail_le _
theorem Cu.number_len (c : Cu) (m : Int) : 1 + 2 * (c.number m).1.r.length ≤ 2 * c.r.length + 1 := by have := (c.number_le m).2; omega
/-- Bounds of what was read. -/
def Fine (x : Cu × List Tm) (c : Cu) : Prop := x.1.Le c ∧ x.2.length + 2 * x.1.r.length ≤ 2 * c.r.length + 1
theorem over_len (op : Int) (a b : List Tm) : (over op a b).length = a.length + b.length + 1 := by simp [over]
section
variable {rec : Nat → Cu → Cu × List Tm} (hrec : ∀ k c, Fine (rec k c) c)
include hrec
theorem twoP_fine (op : Int) (c : Cu) : (twoP rec op c).2.length + 2 * (twoP rec op c).1.r.length ≤ 2 * c.r.length + 3 ∧ (twoP rec op c).1.Le c := by
  obtain ⟨a1, a2⟩ := hrec 1 (c.want 3 [40])
  obtain ⟨b1, b2⟩ := hrec 1 ((rec 1 (c.want 3 [40])).1.want 3 [44])
  have w1 := (c.want_le 3 [40])
  have w2 := ((rec 1 (c.want 3 [40])).1.want_le 3 [44])
  have w3 := ((rec 1 ((rec 1 (c.want 3 [40])).1.want 3 [44])).1.want_le 3 [41])
  have e1 := w1.2
  have e2 := w2.2
  have e3 := w3.2
  simp only [twoP, over_len]
  exact ⟨by omega, w3.trans (b1.trans (w2.trans (a1.trans w1)))⟩
theorem atomP_fine {c : Cu} (he : c.e = 0) : Fine (atomP rec c) c := by
  have hfail : Fine (c.fail 2, []) c := ⟨c.fail_le 2, by rw [Cu.fail_r]; simp⟩
  unfold atomP
  split
  · exact ⟨c.number_le _, c.number_len _⟩
  · split
    · rename_i h
      obtain ⟨_, hr⟩ := Cu.is_real h (by simp)
      obtain ⟨a1, a2⟩ := hrec 1 c.on
      have w := ((rec 1 c.on).1.want_le 3 [41])
      have e := w.2
      exact ⟨w.trans (a1.trans c.on_le), by simp only; omega⟩
    · split
      · exact hfail
      · rename_i hk
        have hk : c.next.kind = 1 := by simpa using hk
        obtain ⟨_, hr⟩ := Cu.next_real (c := c) (.inr (by rw [hk]; simp))
        have one : ∀ t : Tm, Fine (c.on, [t]) c := fun t => ⟨c.on_le, by simp only [List.length_singleton]; omega⟩
        have two : ∀ op, Fine (twoP rec op c.on) c := fun op => by
          obtain ⟨t1, t2⟩ := twoP_fine hrec op c.on
          exact ⟨t2.trans c.on_le, by omega⟩
        split
        · exact one _
        · split
          · exact one _
          · split
            · have w1 := c.on.want_le 3 [40]
              have w2 := (c.on.want 3 [40]).name_le
              have w3 := ((c.on.want 3 [40]).name.1.want_le 3 [41])
              have e1 := w1.2
              have e2 := w2.2
              have e3 := w3.2
              exact ⟨w3.trans (w2.trans (w1.trans c.on_le)), by simp only [List.length_singleton]; omega⟩
            · split
              · exact two _
              · split
                · exact two _
                · split
                  · exact one _
                  · exact hfail
omit hrec in
theorem btw_real {c : Cu} (h : btw c.next ≠ 0) : c.next.text ≠ [] := by
  intro h0
  apply h
  unfold btw
  split
  · rw [h0]
    have : (([4, 5, 6, 7, 8, 9, 10, 11, 12, 13, 14, 15, 16, 17, 18, 19, 20] : List Int).find? fun op => decide (signB op ≠ []) && decide (signB op = [])) = none := by
      rw [List.find?_eq_none]
      intro x _
      by_cases hx : signB x = [] <;> simp [hx]
    rw [this]
    rfl
  · rfl
theorem lpP_fine (k : Nat) : ∀ (n : Nat) (c : Cu) (l : List Tm), (lpP rec k n c l).1.Le c ∧ (lpP rec k n c l).2.length + 2 * (lpP rec k n c l).1.r.length ≤ l.length + 2 * c.r.length
  | 0, c, l => ⟨.refl c, Nat.le_refl _⟩
  | n + 1, c, l => by
    unfold lpP
    split
    · rename_i h
      obtain ⟨_, hr⟩ := Cu.next_real (c := c) (.inl (btw_real h.2.1))
      obtain ⟨a1, a2⟩ := hrec (k + 1) c.on
      split
      · exact ⟨a1.trans c.on_le, by simp only [over_len]; omega⟩
      · obtain ⟨b1, b2⟩ := lpP_fine k n (rec (k + 1) c.on).1 (over (btw c.next) l (rec (k + 1) c.on).2)
        rw [over_len] at b2
        exact ⟨b1.trans (a1.trans c.on_le), by omega⟩
    · exact ⟨.refl c, Nat.le_refl _⟩
theorem lpP_fuel (k : Nat) : ∀ (n m : Nat) (c : Cu) (l : List Tm), c.r.length < n → c.r.length < m → lpP rec k n c l = lpP rec k m c l
  | 0, m, c, l, h, _ => by omega
  | n + 1, 0, c, l, _, h => by omega
  | n + 1, m + 1, c, l, h1, h2 => by
    simp only [lpP]
    split
    · rename_i h
      obtain ⟨_, hr⟩ := Cu.next_real (c := c) (.inl (btw_real h.2.1))
      obtain ⟨a1, a2⟩ := hrec (k + 1) c.on
      have := a1.2
      split
      · rfl
      · exact lpP_fuel k n m _ _ (by omega) (by omega)
    · rfl
theorem lvP_fine (n : Nat) : ∀ (j : Nat) (c : Cu), Fine (lvP rec n j c) c
  | 0, c => by
    unfold lvP
    split
    · exact ⟨.refl c, by simp⟩
    · rename_i h; exact atomP_fine hrec (by simpa using h)
  | j + 1, c => by
    unfold lvP
    split
    · exact ⟨.refl c, by simp⟩
    · split
      · rename_i h
        obtain ⟨_, hr⟩ := Cu.is_real h.2 (by simp)
        obtain ⟨a1, a2⟩ := hrec 3 c.on
        exact ⟨a1.trans c.on_le, by simp only [over_len, List.length_nil]; omega⟩
      · split
        · rename_i h
          obtain ⟨_, hr⟩ := Cu.is_real h.2 (by simp)
          obtain ⟨a1, a2⟩ := hrec 7 c.on
          exact ⟨a1.trans c.on_le, by simp only [over_len, List.length_nil]; omega⟩
        · obtain ⟨a1, a2⟩ := lvP_fine n j c
          obtain ⟨b1, b2⟩ := lpP_fine hrec (7 - j) n (lvP rec n j c).1 (lvP rec n j c).2
          exact ⟨b1.trans a1, by omega⟩
/-- From a level down: what is between. -/
def hP (rec : Nat → Cu → Cu × List Tm) (n least : Nat) : Nat → Cu → List Tm → Cu × List Tm
  | 0, c, l => (c, l)
  | q + 1, c, l => if q + 1 < least then (c, l) else hP rec n least q (lpP rec (q + 1) n c l).1 (lpP rec (q + 1) n c l).2
omit hrec in
theorem hP_low {n least q : Nat} (h : q < least) (c : Cu) (l : List Tm) : hP rec n least q c l = (c, l) := by
  cases q with
  | zero => rfl
  | succ q => rw [hP, if_pos h]
omit hrec in
theorem hP_snoc {n k : Nat} (hk : 0 < k) : ∀ (q : Nat) (c : Cu) (l : List Tm), k ≤ q → hP rec n k q c l = lpP rec k n (hP rec n (k + 1) q c l).1 (hP rec n (k + 1) q c l).2
  | 0, c, l, h => by omega
  | q + 1, c, l, h => by
    by_cases hq : k = q + 1
    · subst hq
      rw [hP, if_neg (by omega), hP_low (q := q) (by omega), hP_low (q := q + 1) (by omega)]
    · rw [hP, if_neg (by omega), hP_snoc hk q _ _ (by omega)]
      conv => rhs; rw [hP, if_neg (by omega)]
omit hrec in
/-- What begins an expression of a level, and what comes behind it. -/
theorem lvP_eq (n : Nat) (c : Cu) (he : c.e = 0) : ∀ j, j ≤ 7 → lvP rec n j c =
    (if 8 - j ≤ 3 ∧ c.is 1 bNot then hP rec n (8 - j) 2 (rec 3 c.on).1 (over 12 (rec 3 c.on).2 [])
     else if 8 - j ≤ 7 ∧ c.is 3 [45] then hP rec n (8 - j) 6 (rec 7 c.on).1 (over 3 (rec 7 c.on).2 [])
     else hP rec n (8 - j) 7 (atomP rec c).1 (atomP rec c).2)
  | 0, _ => by
    rw [lvP, if_neg (by simp [he]), if_neg (by omega), if_neg (by omega), hP_low (by omega)]
  | j + 1, hj => by
    have ih := lvP_eq n c he j (by omega)
    rw [lvP, if_neg (by simp [he])]
    by_cases h3 : 7 - j = 3 ∧ c.is 1 bNot
    · rw [if_pos h3, if_pos ⟨by omega, h3.2⟩, hP_low (by omega)]
    · rw [if_neg h3]
      by_cases h7 : 7 - j = 7 ∧ c.is 3 [45]
      · rw [if_pos h7, if_neg (by omega), if_pos ⟨by omega, h7.2⟩, hP_low (by omega)]
      · rw [if_neg h7, ih]
        have e : 8 - (j + 1) = 7 - j := by omega
        have e' : 8 - j = 7 - j + 1 := by omega
        rw [e, e']
        by_cases hn : c.is 1 bNot = true
        · by_cases hl : 7 - j ≤ 2
          · rw [if_pos ⟨by omega, hn⟩, if_pos ⟨by omega, hn⟩, ← hP_snoc (by omega) 2 _ _ hl]
          · have : ¬ 7 - j = 3 := fun h => h3 ⟨h, hn⟩
            have hm : ¬ c.is 3 [45] = true := by
              intro h
              simp only [Cu.is, Bool.and_eq_true, decide_eq_true_eq] at hn h
              rw [hn.2.1] at h
              exact absurd h.2.1 (by decide)
            rw [if_neg (by omega), if_neg (fun h => hm h.2), if_neg (by omega), if_neg (fun h => hm h.2), ← hP_snoc (by omega) 7 _ _ (by omega)]
        · have n1 : ∀ p : Prop, ¬ (p ∧ c.is 1 bNot = true) := fun p h => hn h.2
          by_cases hm : c.is 3 [45] = true
          · have : ¬ 7 - j = 7 := fun h => h7 ⟨h, hm⟩
            rw [if_neg (n1 _), if_pos ⟨by omega, hm⟩, if_neg (n1 _), if_pos ⟨by omega, hm⟩, ← hP_snoc (by omega) 6 _ _ (by omega)]
          · have n2 : ∀ p : Prop, ¬ (p ∧ c.is 3 [45] = true) := fun p h => hm h.2
            rw [if_neg (n1 _), if_neg (n2 _), if_neg (n1 _), if_neg (n2 _), ← hP_snoc (by omega) 7 _ _ (by omega)]
omit hrec in
theorem hP_stop {n least : Nat} : ∀ (q : Nat) (c : Cu) (l : List Tm), (c.e = 0 → btw c.next ≠ 0 → levelI (btw c.next) < least ∨ (q : Int) < levelI (btw c.next)) → hP rec n least q c l = (c, l)
  | 0, c, l, h => rfl
  | q + 1, c, l, h => by
    rw [hP]
    split
    · rfl
    · rename_i hq
      have : lpP rec (q + 1) n c l = (c, l) := by
        cases n with
        | zero => rfl
        | succ n =>
          rw [lpP, if_neg]
          rintro ⟨h1, h2, h3⟩
          rcases h h1 h2 with h4 | h4
          · rw [h3] at h4; omega
          · rw [h3] at h4; omega
      rw [this]
      exact hP_stop q c l fun h1 h2 => by
        rcases h h1 h2 with h4 | h4
        · exact .inl h4
        · exact .inr (by omega)
theorem hP_step {n least : Nat} (hl : 0 < least) : ∀ (q : Nat) (c : Cu) (l : List Tm) (p : Nat), c.e = 0 → btw c.next ≠ 0 → levelI (btw c.next) = p → least ≤ p → p ≤ q → c.r.length < n →
    hP rec n least q c l = hP rec n least (if p = 4 then 3 else p) (rec (p + 1) c.on).1 (over (btw c.next) l (rec (p + 1) c.on).2)
  | 0, c, l, p, _, _, _, h1, h2, _ => by omega
  | q + 1, c, l, p, he, hb, hp, h1, h2, hn => by
    obtain ⟨m, rfl⟩ : ∃ m, n = m + 1 := ⟨n - 1, by omega⟩
    by_cases hq : p = q + 1
    · subst hq
      rw [hP, if_neg (by omega)]
      have hlp : lpP rec (q + 1) (m + 1) c l = if q + 1 = 4 then ((rec (q + 1 + 1) c.on).1, over (btw c.next) l (rec (q + 1 + 1) c.on).2) else lpP rec (q + 1) m (rec (q + 1 + 1) c.on).1 (over (btw c.next) l (rec (q + 1 + 1) c.on).2) := by
        rw [lpP, if_pos ⟨he, hb, by rw [hp]⟩]
      rw [hlp]
      by_cases h4 : q + 1 = 4
      · rw [if_pos h4, if_pos h4]
        have : q = 3 := by omega
        subst this
        rfl
      · rw [if_neg h4, if_neg h4]
        obtain ⟨_, hr⟩ := Cu.next_real (c := c) (.inl (btw_real hb))
        have := (hrec (q + 1 + 1) c.on).1.2
        rw [lpP_fuel hrec (q + 1) m (m + 1) _ _ (by omega) (by omega)]
        conv => rhs; rw [hP, if_neg (by omega)]
    · rw [hP, if_neg (by omega)]
      have : lpP rec (q + 1) (m + 1) c l = (c, l) := by
        rw [lpP, if_neg]
        rintro ⟨_, _, h3⟩
        rw [hp] at h3
        omega
      rw [this]
      exact hP_step hl q c l p he hb hp h1 (by omega) hn
end
theorem lvN_fine : ∀ (n k : Nat) (c : Cu), Fine (lvN n k c) c
  | 0, k, c => ⟨.refl c, by simp [lvN]⟩
  | n + 1, k, c => lvP_fine (lvN_fine n) (n + 1) (8 - k) c
/-- Which levels signs have. -/
theorem btw_level {t : Tk} (h : btw t ≠ 0) : levelI (btw t) = 1 ∨ levelI (btw t) = 2 ∨ levelI (btw t) = 4 ∨ levelI (btw t) = 5 ∨ levelI (btw t) = 6 := by
  unfold btw at h ⊢
  split at h
  · rename_i hk
    rw [if_pos hk]
    generalize hf : (([4, 5, 6, 7, 8, 9, 10, 11, 12, 13, 14, 15, 16, 17, 18, 19, 20] : List Int).find? fun op => decide (signB op ≠ []) && decide (signB op = t.text)) = o at h ⊢
    cases o with
    | none => simp at h
    | some x =>
      have hm := List.mem_of_find?_eq_some hf
      have hp := List.find?_some hf
      simp only [Bool.and_eq_true, decide_eq_true_eq] at hp
      simp only [Option.getD_some]
      simp only [List.mem_cons, List.not_mem_nil, or_false] at hm
      rcases hm with h | h | h | h | h | h | h | h | h | h | h | h | h | h | h | h | h <;> subst h <;> first | (exact absurd rfl hp.1) | (simp [levelI])
  · exact absurd rfl h
end Go.Proofs.YtckonoejmjblfaaGreat.Ev

/- Layer 6: the document's signs and lists. -/
set_option linter.unusedVariables false
set_option linter.unusedSimpArgs false
set_option maxRecDepth 100000
set_option maxHeartbeats 4000000
namespace Go.Proofs.YtckonoejmjblfaaGreat.Ev
open Go Go.RowKit

def opsI : Nat → List Int
  | 1 => [20]
  | 2 => [19]
  | 4 => [13, 14, 15, 16, 17, 18]
  | 5 => [4, 5]
  | 6 => [6]
  | _ => []
def signsB (k : Nat) : List (List UInt8) := (opsI k).map signB
theorem eight {k : Nat} (h1 : 1 ≤ k) (h2 : k ≤ 8) : k = 1 ∨ k = 2 ∨ k = 3 ∨ k = 4 ∨ k = 5 ∨ k = 6 ∨ k = 7 ∨ k = 8 := by omega
theorem Signs_ev (k : Nat) (h1 : 1 ≤ k) (h2 : k ≤ 8) : Gives 66 [I k] (.tup [L ((signsB k).map sD), L ((opsI k).map zD)]) := by
  refine .intro Tryz.func66 (by kernel_rfl) (.of fun n ro gl => ?_)
  rcases eight h1 h2 with h | h | h | h | h | h | h | h <;> subst h <;>
    simp -implicitDefEqProofs [Tryz.f66, signsB, opsI, signB]
abbrev allOps : List Int := [4, 5, 6, 7, 8, 9, 10, 11, 12, 13, 14, 15, 16, 17, 18, 19, 20]
theorem btw_sign {t : Tk} (h : btw t ≠ 0) : signB (btw t) = t.text ∧ signB (btw t) ≠ [] ∧ btw t ∈ allOps ∧ (t.kind = 3 ∨ t.kind = 1) := by
  unfold btw at h ⊢
  split at h
  · rename_i hk
    rw [if_pos hk]
    generalize hf : (allOps.find? fun op => decide (signB op ≠ []) && decide (signB op = t.text)) = o at h ⊢
    cases o with
    | none => simp at h
    | some x =>
      have hm := List.mem_of_find?_eq_some hf
      have hp := List.find?_some hf
      simp only [Bool.and_eq_true, decide_eq_true_eq] at hp
      exact ⟨hp.2, hp.1, hm, hk⟩
  · exact absurd rfl h
theorem allOps_cases {x : Int} (h : x ∈ allOps) : x = 4 ∨ x = 5 ∨ x = 6 ∨ x = 7 ∨ x = 8 ∨ x = 9 ∨ x = 10 ∨ x = 11 ∨ x = 12 ∨ x = 13 ∨ x = 14 ∨ x = 15 ∨ x = 16 ∨ x = 17 ∨ x = 18 ∨ x = 19 ∨ x = 20 := by
  simpa using h
theorem btw_of {t : Tk} {op : Int} (hm : op ∈ allOps) (h0 : signB op ≠ []) (h1 : signB op = t.text) (hk : t.kind = 3 ∨ t.kind = 1) : btw t = op := by
  unfold btw
  rw [if_pos hk, ← h1]
  rcases allOps_cases hm with h | h | h | h | h | h | h | h | h | h | h | h | h | h | h | h | h <;> subst h <;> first | exact absurd rfl h0 | rfl
theorem ops_mem {op : Int} {k : Nat} (hm : op ∈ allOps) (h0 : signB op ≠ []) (hl : levelI op = k) : op ∈ opsI k := by
  rcases allOps_cases hm with h | h | h | h | h | h | h | h | h | h | h | h | h | h | h | h | h <;> subst h <;> first
    | exact absurd rfl h0
    | (simp [levelI] at hl
       have hk : k = 5 ∨ k = 6 ∨ k = 4 ∨ k = 2 ∨ k = 1 := by omega
       rcases hk with h | h | h | h | h <;> subst h <;> simp [opsI] at hl ⊢)
theorem mem_ops {op : Int} {k : Nat} (h : op ∈ opsI k) : op ∈ allOps ∧ signB op ≠ [] ∧ levelI op = k := by
  unfold opsI at h
  split at h <;> simp only [List.mem_cons, List.not_mem_nil, or_false] at h
  · subst h; decide
  · subst h; decide
  · rcases h with h | h | h | h | h | h <;> subst h <;> decide
  · rcases h with h | h <;> subst h <;> decide
  · subst h; decide
theorem place_at : ∀ (l : List (List UInt8)) (s : List UInt8) (i : Nat), s ∈ l → ∃ j, place l s i = (i + j : Nat) ∧ l[j]? = some s
  | [], s, i, h => by simp at h
  | x :: r, s, i, h => by
    by_cases hx : x = s
    · exact ⟨0, by rw [place, if_pos hx]; rfl, by simp [hx]⟩
    · have : s ∈ r := by
        rcases List.mem_cons.1 h with h | h
        · exact absurd h.symm hx
        · exact h
      obtain ⟨j, h1, h2⟩ := place_at r s (i + 1) this
      exact ⟨j + 1, by rw [place, if_neg hx, h1]; congr 1; omega, by simpa using h2⟩
/-- The sign that is next, of a level. -/
theorem place_btw {k : Nat} {t : Tk} (hk : t.kind = 3 ∨ t.kind = 1) (h : btw t ≠ 0 ∧ levelI (btw t) = k) : ∃ j : Nat, place (signsB k) t.text 0 = j ∧ (opsI k)[j]? = some (btw t) := by
  obtain ⟨s1, s2, s3, _⟩ := btw_sign h.1
  have hm := ops_mem s3 s2 h.2
  have hs : t.text ∈ signsB k := by rw [← s1]; exact List.mem_map_of_mem hm
  obtain ⟨j, h1, h2⟩ := place_at _ _ 0 hs
  refine ⟨j, by rw [h1]; simp, ?_⟩
  unfold signsB at h2
  rw [List.getElem?_map, Option.map_eq_some_iff] at h2
  obtain ⟨op, ho, he⟩ := h2
  obtain ⟨m1, m2, m3⟩ := mem_ops (List.mem_of_getElem? ho)
  rw [ho, btw_of m1 m2 he hk]
theorem place_not {k : Nat} {t : Tk} (hk : t.kind = 3 ∨ t.kind = 1) (h : ¬ (btw t ≠ 0 ∧ levelI (btw t) = k)) : ¬ 0 ≤ place (signsB k) t.text 0 := by
  rw [place_ge]
  intro hm
  unfold signsB at hm
  rw [List.mem_map] at hm
  obtain ⟨op, ho, he⟩ := hm
  obtain ⟨m1, m2, m3⟩ := mem_ops ho
  have := btw_of m1 m2 he hk
  apply h
  rw [this]
  refine ⟨?_, m3⟩
  rcases allOps_cases m1 with h | h | h | h | h | h | h | h | h | h | h | h | h | h | h | h | h <;> omega
theorem btw_kind {t : Tk} (h : ¬ (t.kind = 3 ∨ t.kind = 1)) : btw t = 0 := by unfold btw; rw [if_neg h]
theorem Tm.c_len (t : Tm) : t.c.length = 3 := rfl
theorem rOver_ev (op : Int) (a b : List Tm) (h : a.length + b.length < 1000000) : Gives 65 [I op, L (a.map Tm.c), L (b.map Tm.c)] (.c (L ((over op a b).map Tm.c))) := by
  refine .intro Tryz.func65 (by kernel_rfl) (.of fun k ro gl => ?_)
  have g1 : (1 + a.length) * 32 ≤ 140737488355328 := by omega
  have g2 : 1 + a.length ≤ 9223372036854775807 := by omega
  have g3 : (1 + b.length) * 32 ≤ 140737488355328 := by omega
  have g4 : 1 + b.length ≤ 9223372036854775807 := by omega
  have g5 : (1 + a.length + b.length) * 32 ≤ 140737488355328 := by omega
  have g6 : 1 + a.length + b.length ≤ 9223372036854775807 := by omega
  by_cases ha : a = []
  · subst ha
    by_cases hb : b = []
    · subst hb
      simp -implicitDefEqProofs [Tryz.f65, over, Tm.c]
    · have hb0 : 0 < b.length := List.length_pos_iff.2 hb
      simp -implicitDefEqProofs [Tryz.f65, over, g3, g4, hb, hb0, Tm.c_len]
      rfl
  · have ha0 : 0 < a.length := List.length_pos_iff.2 ha
    by_cases hb : b = []
    · subst hb
      simp -implicitDefEqProofs [Tryz.f65, over, g1, g2, ha, ha0, Tm.c_len]
      rfl
    · have hb0 : 0 < b.length := List.length_pos_iff.2 hb
      have k1 : (a.length + 1) * 32 ≤ 140737488355328 := by omega
      have k2 : a.length ≤ 9223372036854775806 := by omega
      have k3 : (a.length + 1 + b.length) * 32 ≤ 140737488355328 := by omega
      have k4 : a.length + 1 + b.length ≤ 9223372036854775807 := by omega
      simp -implicitDefEqProofs [Tryz.f65, over, Nat.add_comm 1 a.length, k1, k2, k3, k4, ha, ha0, hb, hb0, Tm.c_len]
      rfl
end Go.Proofs.YtckonoejmjblfaaGreat.Ev

/- Layer 6: the program's lists; which sign is next. -/
set_option linter.unusedVariables false
set_option linter.unusedSimpArgs false
set_option maxRecDepth 100000
set_option maxHeartbeats 4000000
namespace Go.Proofs.YtckonoejmjblfaaGreat.Ev
open Go Go.RowKit

abbrev tlD (b : List Tm) : List D := [.sl (b.map Tm.c)]
abbrev opC (op : Int) : List D := [.int .i64 op, .int .i64 0, .str []]
def jV (op : Int) (l : List Tm) : V := if l = [] then .c (.w (.full [opC op])) else .c (.w (.app 19 (opC op :: l.map Tm.c)))
def jS (op : Int) (bs : List (List Tm)) (i : Nat) (l : List Tm) (s : Bool) (gl : List (List W)) (ro : Nat) : St :=
  st 22 [(5, jV op l), (11, .c (L (bs.map tlD))), (12, V.int .i64 bs.length), (13, V.int .i64 i), (19, if s then jV op l else V.un)] [] (if l = [] then [] else [(19, ⟨l.length + 1, 47, 3⟩)]) gl ro
theorem jn_round (call : Caller) (N : Nat) (op : Int) (bs : List (List Tm)) (hbs : bs.length < 1000000) (i : Nat) (b l : List Tm) (hb : bs[i]? = some b) (hl : l.length + b.length < 1000000) (s : Bool) (hs : l ≠ [] → s = true) (gl : List (List W)) (ro : Nat) :
    (evC Tryz.prog cf 107 call N (bodyOf Tryz.f107 0) (jS op bs i l s gl ro)).map (hv [5, 11, 12, 13, 19]) = some (.normal, jS op bs (i + 1) (l ++ b) true gl ro) := by
  have hlt : i < bs.length := (List.getElem?_eq_some_iff.1 hb).1
  have hlt' : (i : Int) < bs.length := by omega
  have hbe : bs[i] = b := (List.getElem?_eq_some_iff.1 hb).2
  have w : IntKind.i64.wrap ((i : Int) + 1) = (i : Int) + 1 := i64w _ (by omega)
  have g3 : (1 + b.length) * 32 ≤ 140737488355328 := by omega
  have g4 : 1 + b.length ≤ 9223372036854775807 := by omega
  have k3 : (l.length + 1 + b.length) * 32 ≤ 140737488355328 := by omega
  have k4 : l.length + 1 + b.length ≤ 9223372036854775807 := by omega
  have c1 : b.length + 1 = 1 + b.length := by omega
  have c2 : l.length + b.length + 1 = l.length + 1 + b.length := by omega
  by_cases h0 : l = []
  · subst h0
    by_cases h1 : b = []
    · subst h1
      cases s
      · simp -implicitDefEqProofs [jS, jV, bodyOf, loopsOf, hv, Tryz.f107, hlt, hlt', hbe, w]
      · simp -implicitDefEqProofs [jS, jV, bodyOf, loopsOf, hv, Tryz.f107, hlt, hlt', hbe, w]
    · have hb0 : 0 < b.length := List.length_pos_iff.2 h1
      cases s
      · simp -implicitDefEqProofs [jS, jV, bodyOf, loopsOf, hv, Tryz.f107, hlt, hlt', hbe, w, h1, hb0, g3, g4, Tm.c_len, c1]
      · simp -implicitDefEqProofs [jS, jV, bodyOf, loopsOf, hv, Tryz.f107, hlt, hlt', hbe, w, h1, hb0, g3, g4, Tm.c_len, c1]
  · have hs' := hs h0
    subst hs'
    by_cases h1 : b = []
    · subst h1
      simp -implicitDefEqProofs [jS, jV, bodyOf, loopsOf, hv, Tryz.f107, hlt, hlt', hbe, w, h0]
    · have hb0 : 0 < b.length := List.length_pos_iff.2 h1
      simp -implicitDefEqProofs [jS, jV, bodyOf, loopsOf, hv, Tryz.f107, hlt, hlt', hbe, w, h0, h1, hb0, k3, k4, Tm.c_len, c2]
theorem jn_loop (call : Caller) (N : Nat) (op : Int) (bs : List (List Tm)) (hbs : bs.length < 1000000) (gl : List (List W)) (ro : Nat) : ∀ (r p : List (List Tm)) (l : List Tm) (s : Bool) (n : Nat) (S : St), bs = p ++ r → (l ≠ [] → s = true) → l.length + r.flatten.length < 1000000 → r.length < n → S.hav [5, 11, 12, 13, 19] = jS op bs p.length l s gl ro → ∃ s' : Bool, True ∧
    loopA (evC Tryz.prog cf 107 call N (bodyOf Tryz.f107 0)) [5, 11, 12, 13, 19] [] n S = some (.exit 0, jS op bs bs.length (l ++ r.flatten) s' gl ro)
  | [], p, l, s, n, S, hp, hs, hl, hn, hS => by
    refine ⟨s, trivial, ?_⟩
    obtain ⟨n, rfl⟩ : ∃ m, n = m + 1 := ⟨n - 1, by omega⟩
    have : p = bs := by simpa using hp.symm
    subst this
    refine loop_exit ?_
    rw [hS]
    simp only [List.flatten_nil, List.append_nil]
    by_cases h0 : l = []
    · cases s <;> simp -implicitDefEqProofs [jS, jV, h0, bodyOf, loopsOf, hv, Tryz.f107]
    · have hs' := hs h0
      subst hs'
      simp -implicitDefEqProofs [jS, jV, h0, bodyOf, loopsOf, hv, Tryz.f107]
  | b :: r, p, l, s, n, S, hp, hs, hl, hn, hS => by
    obtain ⟨n, rfl⟩ : ∃ m, n = m + 1 := ⟨n - 1, by omega⟩
    rw [List.flatten_cons, List.length_append] at hl
    have hb : bs[p.length]? = some b := by rw [hp]; simp
    have r1 := jn_round call N op bs hbs p.length b l hb (by omega) s hs gl ro
    rw [← hS] at r1
    obtain ⟨S', hS', e⟩ := loop_on r1
    obtain ⟨s', _, h⟩ := jn_loop call N op bs hbs gl ro r (p ++ [b]) (l ++ b) true n S' (by rw [hp]; simp) (fun _ => rfl) (by rw [List.length_append]; omega) (by simpa using hn) (by simpa using hS')
    exact ⟨s', trivial, by rw [e, h, List.flatten_cons, List.append_assoc]⟩
theorem bind_ex2 {α β ι : Type} {x : Option α} {f : α → Option β} {z : Option β} {p : ι → Prop} {v : ι → α} (h : ∃ i, p i ∧ x = some (v i)) (k : ∀ i, p i → f (v i) = z) : x.bind f = z := by
  obtain ⟨i, h1, h2⟩ := h
  rw [h2]
  exact k i h1
theorem join_ev (op : Int) (bs : List (List Tm)) (hbs : bs.length < 1000000) (hl : bs.flatten.length < 1000000) : Gives 107 [I op, L (bs.map tlD)] (.c (L ((⟨op, 0, []⟩ :: bs.flatten : List Tm).map Tm.c))) := by
  refine .intro Tryz.func107 (by kernel_rfl) ((Evt.ge (bs.length + 1)).imp fun k hk ro gl => ?_)
  have tail : ∀ S : St, S.hav [5, 11, 12, 13, 19] = jS op bs 0 [] false gl gl.length → ∃ s' : Bool, True ∧ loopC Tryz.prog cf 107 (ev k) k (bodyOf Tryz.f107 0) S = some (.exit 0, jS op bs bs.length bs.flatten s' gl gl.length) := fun S hS => jn_loop (ev k) k op bs hbs gl gl.length bs [] [] false k S rfl (fun h => absurd rfl h) (by simpa using hl) (by omega) hS
  generalize bs.flatten = fl at tail hl ⊢
  simp -implicitDefEqProofs [Tryz.f107]
  refine bind_ex2 (tail _ ?_) fun b _ => ?_
  · simp [jS, jV]
  · by_cases h0 : fl = []
    · cases b <;> simp [jS, jV, h0, Tm.c]
    · cases b <;> simp [jS, jV, h0, Tm.c]
/-! which sign is next -/
def bwF (t : Tk) (i : Nat) : Int := ((allOps.drop i).find? fun op => decide (signB op ≠ []) && decide (signB op = t.text)).getD 0
def bwS (x : W) (t : Tk) (i : Nat) (gl : List (List W)) (ro : Nat) : St := st 34 [(3, .c (.w (.box 3 0))), (4, V.int .i64 ((i : Int) + 4))] [(3, [.d (.int .i64 t.kind), .d (.str t.text), .d (.int .i64 t.ln), .d (.int .i64 t.cl)])] [] gl ro
theorem allOps_get {i : Nat} (h : i < 17) : allOps[i]? = some ((i : Int) + 4) := by
  have : i = 0 ∨ i = 1 ∨ i = 2 ∨ i = 3 ∨ i = 4 ∨ i = 5 ∨ i = 6 ∨ i = 7 ∨ i = 8 ∨ i = 9 ∨ i = 10 ∨ i = 11 ∨ i = 12 ∨ i = 13 ∨ i = 14 ∨ i = 15 ∨ i = 16 := by omega
  rcases this with h | h | h | h | h | h | h | h | h | h | h | h | h | h | h | h | h <;> subst h <;> rfl
theorem allOps_drop {i : Nat} (h : i < 17) : allOps.drop i = ((i : Int) + 4) :: allOps.drop (i + 1) := by
  have hl : i < allOps.length := h
  rw [List.drop_eq_getElem_cons hl]
  congr 1
  exact Option.some.inj ((List.getElem?_eq_getElem hl).symm.trans (allOps_get h))
theorem bw_loop (t : Tk) (x : W) : Evt fun k => ∀ gl ro n S, 18 < n → S.hav [3, 4] = bwS x t 0 gl ro →
    loopA (evC Tryz.prog cf 106 (ev k) k (bodyOf Tryz.f106 0)) [3, 4] [2] n S = some (if btw t ≠ 0 then (.ret, st 34 [(2, V.int .i64 (btw t))] [] [] gl ro) else (.exit 0, bwS x t 17 gl ro)) := by
  refine sign_ev.imp fun k hsg gl ro n S hn hS => ?_
  refine loop_by (keep := [3, 4]) (res := [2]) (fun i : Nat => bwS x t i gl ro) (fun i => i ≤ 17) (fun i => 17 - i) (fun i => if (t.kind = 3 ∨ t.kind = 1) ∧ bwF t i ≠ 0 then (.ret, st 34 [(2, V.int .i64 (bwF t i))] [] [] gl ro) else (.exit 0, bwS x t 17 gl ro)) ?_ n 0 S (by omega) (by omega) hS |>.trans ?_
  · intro i hi
    by_cases h17 : i = 17
    · subst h17
      refine .inr (.inl ⟨0, bwS x t 17 gl ro, ?_, ?_⟩)
      · simp -implicitDefEqProofs [bwS, bodyOf, loopsOf, hv, Tryz.f106]
      · rw [if_neg]; rintro ⟨_, h⟩; exact h rfl
    · have hlt : i < 17 := by omega
      have hs := fun ro gl => hsg ((i : Int) + 4) ro gl (by omega) (by omega)
      have hd := allOps_drop hlt
      have g1 : (i : Int) + 4 ≤ 20 := by omega
      have w : IntKind.i64.wrap ((i : Int) + 4 + 1) = (i : Int) + 1 + 4 := by rw [i64w _ (by omega)]; omega
      have w2 : ((i + 1 : Nat) : Int) + 4 = (i : Int) + 1 + 4 := by omega
      have hF : bwF t i = if signB ((i : Int) + 4) ≠ [] ∧ signB ((i : Int) + 4) = t.text then (i : Int) + 4 else bwF t (i + 1) := by
        unfold bwF
        rw [hd, List.find?_cons]
        by_cases hc : signB ((i : Int) + 4) ≠ [] ∧ signB ((i : Int) + 4) = t.text
        · rw [if_pos hc, decide_eq_true hc.1, decide_eq_true hc.2]; rfl
        · rw [if_neg hc]
          have : (decide (signB ((i : Int) + 4) ≠ []) && decide (signB ((i : Int) + 4) = t.text)) = false := by
            simp only [Bool.and_eq_false_iff, decide_eq_false_iff_not]
            by_cases h1 : signB ((i : Int) + 4) ≠ []
            · exact .inr fun h2 => hc ⟨h1, h2⟩
            · exact .inl h1
          rw [this]
      generalize signB ((i : Int) + 4) = sg at hs hF
      by_cases h1 : sg = []
      · refine .inl ⟨i + 1, by omega, by omega, ?_, ?_⟩
        · simp -implicitDefEqProofs [bwS, bodyOf, loopsOf, hv, Tryz.f106, hs, g1, w, w2, h1]
        · rw [show bwF t i = bwF t (i + 1) by rw [hF, if_neg (fun h => h.1 h1)]]
      · by_cases h2 : sg = t.text
        · subst h2
          have h2 : True := trivial
          by_cases h3 : t.kind = 3
          · refine .inr (.inr ⟨st 34 [(2, V.int .i64 ((i : Int) + 4))] [] [] gl ro, ?_, ?_⟩)
            · simp -implicitDefEqProofs [bwS, bodyOf, loopsOf, hv, Tryz.f106, hs, g1, w, w2, h1, h2, h3]
            · rw [show bwF t i = (i : Int) + 4 by rw [hF, if_pos ⟨h1, rfl⟩], if_pos ⟨.inl h3, by omega⟩]
          · by_cases h4 : t.kind = 1
            · refine .inr (.inr ⟨st 34 [(2, V.int .i64 ((i : Int) + 4))] [] [] gl ro, ?_, ?_⟩)
              · simp -implicitDefEqProofs [bwS, bodyOf, loopsOf, hv, Tryz.f106, hs, g1, w, w2, h1, h2, h3, h4]
              · rw [show bwF t i = (i : Int) + 4 by rw [hF, if_pos ⟨h1, rfl⟩], if_pos ⟨.inr h4, by omega⟩]
            · refine .inl ⟨i + 1, by omega, by omega, ?_, ?_⟩
              · simp -implicitDefEqProofs [bwS, bodyOf, loopsOf, hv, Tryz.f106, hs, g1, w, w2, h1, h2, h3, h4]
              · rw [if_neg (fun h => h.1.elim h3 h4), if_neg (fun h => h.1.elim h3 h4)]
        · refine .inl ⟨i + 1, by omega, by omega, ?_, ?_⟩
          · simp -implicitDefEqProofs [bwS, bodyOf, loopsOf, hv, Tryz.f106, hs, g1, w, w2, h1, h2]
          · rw [show bwF t i = bwF t (i + 1) by rw [hF, if_neg (fun h => h2 h.2)]]
  · have : btw t = if t.kind = 3 ∨ t.kind = 1 then bwF t 0 else 0 := rfl
    rw [this]
    by_cases hk : t.kind = 3 ∨ t.kind = 1
    · rw [if_pos hk]
      by_cases h0 : bwF t 0 = 0
      · rw [if_neg (fun h => h.2 h0), if_neg (fun h => h h0)]
      · rw [if_pos ⟨hk, h0⟩, if_pos h0]
    · rw [if_neg (fun h => hk h.1), if_neg hk, if_neg (fun h => h rfl)]
theorem between_ev {c : Cu} (hk : c.Ok) : ReadsU 106 (fun o => [.agg [.glo o 0]]) c.w (V.int .i64 (btw c.next)) := by
  refine .intro Tryz.func106 (by kernel_rfl) (((next_c hk).and ((bw_loop c.next .nil).and (Evt.ge 19))).imp fun k ⟨h1, h2, hK⟩ gl o ro hg => ?_)
  have h1 := fun ro => h1 gl o ro hg
  simp [Tk.w] at h1
  by_cases hb : btw c.next = 0
  · have tail : ∀ (ro : Nat) (S : St), S.hav [3, 4] = bwS .nil c.next 0 gl ro → loopC Tryz.prog cf 106 (ev k) k (bodyOf Tryz.f106 0) S = some (.exit 0, bwS .nil c.next 17 gl ro) := fun ro S hS => (h2 gl ro k S (by omega) hS).trans (congrArg some (if_neg (by simp [hb])))
    simp -implicitDefEqProofs [Tryz.f106, h1]
    refine bind_go (tail ro _ ?_) ?_
    · simp [bwS]
    · simp [bwS, hb]
  · have tail : ∀ (ro : Nat) (S : St), S.hav [3, 4] = bwS .nil c.next 0 gl ro → loopC Tryz.prog cf 106 (ev k) k (bodyOf Tryz.f106 0) S = some (.ret, st 34 [(2, V.int .i64 (btw c.next))] [] [] gl ro) := fun ro S hS => (h2 gl ro k S (by omega) hS).trans (congrArg some (if_pos hb))
    simp -implicitDefEqProofs [Tryz.f106, h1]
    refine bind_go (tail ro _ ?_) ?_
    · simp [bwS]
    · simp
end Go.Proofs.YtckonoejmjblfaaGreat.Ev

/- Layer 6: the program's expressions of the last level. -/
set_option linter.unusedVariables false
set_option linter.unusedSimpArgs false
set_option maxRecDepth 100000
set_option maxHeartbeats 4000000
namespace Go.Proofs.YtckonoejmjblfaaGreat.Ev
open Go Go.RowKit

abbrev rdr (o : Nat) : C := .agg [.glo o 0]
theorem take_no' {c : Cu} (hk : c.Ok) (kd : Int) (t : List UInt8) (h : ¬ c.is kd t = true) : Evt fun k => ∀ gl o ro, (gl : List (List W))[o]? = some c.w → ro ≤ o → ev k 16 [.w (.glo o 0), I kd, T t] ro gl = some (V.bool false, gl) := by
  refine (take_c hk kd t).imp fun k q gl o ro hg hro => ?_
  have := q gl o ro hg hro
  rw [Cu.take, if_neg h, set_same hg, show c.is kd t = false by simpa using h] at this
  exact this
theorem take_yes {c : Cu} (hk : c.Ok) (kd : Int) (t : List UInt8) (h : c.is kd t = true) : Evt fun k => ∀ gl o ro, (gl : List (List W))[o]? = some c.w → ro ≤ o → ev k 16 [.w (.glo o 0), I kd, T t] ro gl = some (V.bool true, gl.set o c.on.w) := by
  refine (take_c hk kd t).imp fun k q gl o ro hg hro => ?_
  have := q gl o ro hg hro
  rw [Cu.take, if_pos h, h] at this
  exact this
/-- What the program's reader does. -/
def RdF (f : Nat) (rec : Nat → Cu → Cu × List Tm) (n : Nat) : Prop := ∀ d : Cu, d.Ok → d.r.length < n → ∀ k : Nat, 1 ≤ k → k ≤ 7 → DoesU f (fun o => [rdr o, I k]) d.w (.c (L ((rec k d).2.map Tm.c))) (rec k d).1.w
section
variable {rec : Nat → Cu → Cu × List Tm} (hfine : ∀ k c, Fine (rec k c) c) {n : Nat} (hrec : RdF 60 rec n)
include hfine hrec -- 60
theorem two_ev {c : Cu} (hk : c.Ok) (hn : c.r.length < n) (hN : n < 100000) (op : Int) : DoesU 142 (fun o => [rdr o, I op]) c.w (.c (L ((twoP rec op c).2.map Tm.c))) (twoP rec op c).1.w := by
  have w1 := c.want_le 3 [40]
  obtain ⟨a1, a2⟩ := hfine 1 (c.want 3 [40])
  have w2 := ((rec 1 (c.want 3 [40])).1.want_le 3 [44])
  obtain ⟨b1, b2⟩ := hfine 1 ((rec 1 (c.want 3 [40])).1.want 3 [44])
  have e1 := w1.2
  have e2 := a1.2
  have e3 := w2.2
  have o1 := w1.1 hk
  have o2 := a1.1 o1
  have o3 := w2.1 o2
  have o4 := b1.1 o3
  have hj := join_ev op [(rec 1 (c.want 3 [40])).2, (rec 1 ((rec 1 (c.want 3 [40])).1.want 3 [44])).2] (by simp) (by simp; omega)
  refine .intro Tryz.func142 (by kernel_rfl) (((want_c hk 3 [40]).and ((hrec _ o1 (by omega) 1 (by omega) (by omega)).and ((want_c o2 3 [44]).and ((hrec _ o3 (by omega) 1 (by omega) (by omega)).and ((want_c o4 3 [41]).and hj))))).imp fun k ⟨h1, h2, h3, h4, h5, h6⟩ gl o ro hg hro => ?_)
  have h1 := h1 gl o ro hg hro
  have h2 := h2 _ o ro (get_set hg _) hro
  have h3 := h3 _ o ro (get_set hg _) hro
  have h4 := h4 _ o ro (get_set hg _) hro
  have h5 := h5 _ o ro (get_set hg _) hro
  clear hfine hrec
  simp only [twoP] at *
  clear e1 e2 e3 a1 a2 b1 b2 w1 w2 hj
  generalize hd2 : c.want 3 [40] = d2 at *
  generalize hd3 : rec 1 d2 = q at *
  obtain ⟨d3, x⟩ := q
  simp only at h2 h3 h4 h5 h6 ⊢
  generalize hd4 : d3.want 3 [44] = d4 at *
  generalize hd5 : rec 1 d4 = q2 at *
  obtain ⟨d5, y⟩ := q2
  simp only at h4 h5 h6 ⊢
  generalize hd6 : d5.want 3 [41] = d6 at *
  simp only [List.set_set] at h2 h3 h4 h5
  have hov : (⟨op, 0, []⟩ :: [x, y].flatten : List Tm) = over op x y := by simp [over]
  rw [hov] at h6
  generalize over op x y = ov at h6 ⊢
  simp at h2 h4 h6
  simp -implicitDefEqProofs [Tryz.f142, h1, h2, h3, h4, h5, h6]
omit hfine hrec in -- 60
theorem isF {c : Cu} {k : Int} {t : List UInt8} (h : ¬ (c.next.kind = k ∧ c.next.text = t)) : ¬ c.is k t = true := by
  intro hh
  simp only [Cu.is, Bool.and_eq_true, decide_eq_true_eq] at hh
  exact h ⟨hh.2.1, hh.2.2⟩
omit hfine hrec in -- 60
theorem isT {c : Cu} {k : Int} {t : List UInt8} (he : c.e = 0) (h1 : c.next.kind = k) (h2 : c.next.text = t) : c.is k t = true := by
  simp [Cu.is, he, h1, h2]
theorem pAtom_ev {c : Cu} (hk : c.Ok) (he : c.e = 0) (hn : c.r.length < n + 1) (hN : n < 100000) : DoesU 134 (fun o => [rdr o]) c.w (.c (L ((atomP rec c).2.map Tm.c))) (atomP rec c).1.w := by
  unfold atomP
  have hj1 : ∀ op : Int, Gives 107 [I op, L []] (.c (L (([⟨op, 0, []⟩] : List Tm).map Tm.c))) := fun op => by
    have := join_ev op [] (by simp) (by simp)
    exact this
  by_cases k2 : c.next.kind = 2
  · rw [if_pos k2]
    refine .intro Tryz.func134 (by kernel_rfl) (((next_c hk).and (number_c hk 1000000)).imp fun k ⟨h1, h2⟩ gl o ro hg hro => ?_)
    have h1 := fun ro => h1 gl o ro hg
    have h2 := h2 gl o ro hg hro
    generalize c.number 1000000 = q at h2 ⊢
    obtain ⟨d, x⟩ := q
    simp [Tk.w, k2] at h1
    simp at h2
    simp -implicitDefEqProofs [Tryz.f134, Tm.c, h1, h2]
  · rw [if_neg k2]
    by_cases kp : c.is 3 [40] = true
    · rw [if_pos kp]
      obtain ⟨_, hr⟩ := Cu.is_real kp (by simp)
      have kp' := kp
      simp only [Cu.is, Bool.and_eq_true, decide_eq_true_eq] at kp'
      have k3 := kp'.2.1
      have f1 : ∀ t, ¬ c.is 1 t = true := fun t => isF (fun h => by rw [k3] at h; exact absurd h.1 (by decide))
      obtain ⟨a1, a2⟩ := hfine 1 c.on
      refine .intro Tryz.func134 (by kernel_rfl) (((next_c hk).and ((take_no' hk 1 bTrue (f1 _)).and ((take_no' hk 1 bFalse (f1 _)).and ((take_no' hk 1 bMin (f1 _)).and ((take_no' hk 1 bMax (f1 _)).and ((take_yes hk 3 [40] kp).and ((hrec c.on hk.on (by omega) 1 (by omega) (by omega)).and (want_c (a1.1 hk.on) 3 [41])))))))).imp fun k ⟨h1, h2, h3, h4, h5, h6, h7, h8⟩ gl o ro hg hro => ?_)
      have h1 := fun ro => h1 gl o ro hg
      have h2 := h2 gl o ro hg hro
      have h3 := h3 gl o ro hg hro
      have h4 := h4 gl o ro hg hro
      have h5 := h5 gl o ro hg hro
      have h6 := h6 gl o ro hg hro
      have h7 := h7 _ o ro (get_set hg _) hro
      have h8 := h8 _ o ro (get_set hg _) hro
      simp only [List.set_set] at h7 h8
      generalize rec 1 c.on = q at h7 h8 ⊢
      obtain ⟨d, x⟩ := q
      simp only at h7 h8 ⊢
      simp [Tk.w, k3] at h1
      simp at h7
      simp -implicitDefEqProofs [Tryz.f134, h1, h2, h3, h4, h5, h6, h7, h8]
    · rw [if_neg kp]
      by_cases k1 : c.next.kind = 1
      rotate_left
      · rw [if_pos k1]
        have f1 : ∀ t, ¬ c.is 1 t = true := fun t => isF (fun h => k1 h.1)
        refine .intro Tryz.func134 (by kernel_rfl) (((next_c hk).and ((take_no' hk 1 bTrue (f1 _)).and ((take_no' hk 1 bFalse (f1 _)).and ((take_no' hk 1 bMin (f1 _)).and ((take_no' hk 1 bMax (f1 _)).and ((take_no' hk 3 [40] kp).and ((take_no' hk 1 bIn (f1 _)).and (fail_c hk 2)))))))).imp fun k ⟨h1, h2, h3, h4, h5, h6, h7, h8⟩ gl o ro hg hro => ?_)
        have h1 := fun ro => h1 gl o ro hg
        have h2 := h2 gl o ro hg hro
        have h3 := h3 gl o ro hg hro
        have h4 := h4 gl o ro hg hro
        have h5 := h5 gl o ro hg hro
        have h6 := h6 gl o ro hg hro
        have h7 := h7 gl o ro hg hro
        have h8 := h8 gl o ro hg hro
        simp [Tk.w] at h1
        simp -implicitDefEqProofs [Tryz.f134, h1, h2, h3, h4, h5, h6, h7, h8, k1, k2]
      · rw [if_neg (by simp [k1])]
        obtain ⟨_, hr⟩ := Cu.next_real (c := c) (.inr (by rw [k1]; simp))
        by_cases t1 : c.next.text = bTrue
        · rw [if_pos t1]
          refine .intro Tryz.func134 (by kernel_rfl) (((next_c hk).and ((take_yes hk 1 bTrue (isT he k1 t1)).and (hj1 9))).imp fun k ⟨h1, h2, h3⟩ gl o ro hg hro => ?_)
          have h1 := fun ro => h1 gl o ro hg
          have h2 := h2 gl o ro hg hro
          simp [Tk.w, k1] at h1
          simp at h3
          simp -implicitDefEqProofs [Tryz.f134, h1, h2, h3]
        · rw [if_neg t1]
          have n1 := take_no' hk 1 bTrue (isF fun h => t1 h.2)
          by_cases t2 : c.next.text = bFalse
          · rw [if_pos t2]
            refine .intro Tryz.func134 (by kernel_rfl) (((next_c hk).and (n1.and ((take_yes hk 1 bFalse (isT he k1 t2)).and (hj1 10)))).imp fun k ⟨h1, h0, h2, h3⟩ gl o ro hg hro => ?_)
            have h1 := fun ro => h1 gl o ro hg
            have h0 := h0 gl o ro hg hro
            have h2 := h2 gl o ro hg hro
            simp [Tk.w, k1] at h1
            simp at h3
            simp -implicitDefEqProofs [Tryz.f134, h1, h0, h2, h3]
          · rw [if_neg t2]
            have n2 := take_no' hk 1 bFalse (isF fun h => t2 h.2)
            by_cases t3 : c.next.text = bIn
            · rw [if_pos t3]
              have n3 := take_no' hk 1 bMin (isF fun h => by rw [t3] at h; exact absurd h.2 (by decide))
              have n4 := take_no' hk 1 bMax (isF fun h => by rw [t3] at h; exact absurd h.2 (by decide))
              have w1 := c.on.want_le 3 [40]
              have w2 := (c.on.want 3 [40]).name_le
              refine .intro Tryz.func134 (by kernel_rfl) (((next_c hk).and (n1.and (n2.and (n3.and (n4.and ((take_no' hk 3 [40] kp).and ((take_yes hk 1 bIn (isT he k1 t3)).and ((want_c hk.on 3 [40]).and ((name_c (w1.1 hk.on)).and (want_c (w2.1 (w1.1 hk.on)) 3 [41])))))))))).imp fun k ⟨h1, h2, h3, h4, h5, h6, h7, h8, h9, h10⟩ gl o ro hg hro => ?_)
              have h1 := fun ro => h1 gl o ro hg
              have h2 := h2 gl o ro hg hro
              have h3 := h3 gl o ro hg hro
              have h4 := h4 gl o ro hg hro
              have h5 := h5 gl o ro hg hro
              have h6 := h6 gl o ro hg hro
              have h7 := h7 gl o ro hg hro
              have h8 := h8 _ o ro (get_set hg _) hro
              have h9 := h9 _ o ro (get_set hg _) hro
              have h10 := h10 _ o ro (get_set hg _) hro
              simp only [List.set_set] at h8 h9 h10
              generalize c.on.want 3 [40] = d at h8 h9 h10 ⊢
              generalize d.name = q at h9 h10 ⊢
              obtain ⟨d2, x⟩ := q
              simp only at h9 h10 ⊢
              simp [Tk.w, k1] at h1
              simp -implicitDefEqProofs [Tryz.f134, Tm.c, h1, h2, h3, h4, h5, h6, h7, h8, h9, h10]
            · rw [if_neg t3]
              have n5 := take_no' hk 1 bIn (isF fun h => t3 h.2)
              by_cases t4 : c.next.text = bMin
              · rw [if_pos t4]
                refine .intro Tryz.func134 (by kernel_rfl) (((next_c hk).and (n1.and (n2.and ((take_yes hk 1 bMin (isT he k1 t4)).and (two_ev hfine hrec hk.on (by omega) hN 7))))).imp fun k ⟨h1, h2, h3, h4, h5⟩ gl o ro hg hro => ?_)
                have h1 := fun ro => h1 gl o ro hg
                have h2 := h2 gl o ro hg hro
                have h3 := h3 gl o ro hg hro
                have h4 := h4 gl o ro hg hro
                have h5 := h5 _ o ro (get_set hg _) hro
                simp only [List.set_set] at h5
                generalize twoP rec 7 c.on = q at h5 ⊢
                obtain ⟨d2, x⟩ := q
                simp only at h5 ⊢
                simp [Tk.w, k1] at h1
                simp -implicitDefEqProofs [Tryz.f134, h1, h2, h3, h4, h5]
              · rw [if_neg t4]
                have n3 := take_no' hk 1 bMin (isF fun h => t4 h.2)
                by_cases t5 : c.next.text = bMax
                · rw [if_pos t5]
                  refine .intro Tryz.func134 (by kernel_rfl) (((next_c hk).and (n1.and (n2.and (n3.and ((take_yes hk 1 bMax (isT he k1 t5)).and (two_ev hfine hrec hk.on (by omega) hN 8)))))).imp fun k ⟨h1, h2, h3, h0, h4, h5⟩ gl o ro hg hro => ?_)
                  have h1 := fun ro => h1 gl o ro hg
                  have h2 := h2 gl o ro hg hro
                  have h3 := h3 gl o ro hg hro
                  have h0 := h0 gl o ro hg hro
                  have h4 := h4 gl o ro hg hro
                  have h5 := h5 _ o ro (get_set hg _) hro
                  simp only [List.set_set] at h5
                  generalize twoP rec 8 c.on = q at h5 ⊢
                  obtain ⟨d2, x⟩ := q
                  simp only at h5 ⊢
                  simp [Tk.w, k1] at h1
                  simp -implicitDefEqProofs [Tryz.f134, h1, h2, h3, h0, h4, h5]
                · rw [if_neg t5]
                  have n4 := take_no' hk 1 bMax (isF fun h => t5 h.2)
                  by_cases t6 : isName c.next.text = true
                  · rw [if_pos t6]
                    have hnm : c.name = (c.on, c.next.text) := by unfold Cu.name; rw [if_pos (by simp [Cu.named, he, k1, t6])]
                    have hnc := name_c hk
                    rw [hnm] at hnc
                    refine .intro Tryz.func134 (by kernel_rfl) (((next_c hk).and (n1.and (n2.and (n3.and (n4.and ((take_no' hk 3 [40] kp).and (n5.and ((nIs_ev _ hk.next).and hnc)))))))).imp fun k ⟨h1, h2, h3, h4, h5, h6, h7, h8, h9⟩ gl o ro hg hro => ?_)
                    have h1 := fun ro => h1 gl o ro hg
                    have h2 := h2 gl o ro hg hro
                    have h3 := h3 gl o ro hg hro
                    have h4 := h4 gl o ro hg hro
                    have h5 := h5 gl o ro hg hro
                    have h6 := h6 gl o ro hg hro
                    have h7 := h7 gl o ro hg hro
                    have h9 := h9 gl o ro hg hro
                    rw [t6] at h8
                    simp [Tk.w, k1] at h1
                    simp at h8 h9
                    simp -implicitDefEqProofs [Tryz.f134, Tm.c, h1, h2, h3, h4, h5, h6, h7, h8, h9]
                  · rw [if_neg t6]
                    refine .intro Tryz.func134 (by kernel_rfl) (((next_c hk).and (n1.and (n2.and (n3.and (n4.and ((take_no' hk 3 [40] kp).and (n5.and ((nIs_ev _ hk.next).and (fail_c hk 2))))))))).imp fun k ⟨h1, h2, h3, h4, h5, h6, h7, h8, h9⟩ gl o ro hg hro => ?_)
                    have h1 := fun ro => h1 gl o ro hg
                    have h2 := h2 gl o ro hg hro
                    have h3 := h3 gl o ro hg hro
                    have h4 := h4 gl o ro hg hro
                    have h5 := h5 gl o ro hg hro
                    have h6 := h6 gl o ro hg hro
                    have h7 := h7 gl o ro hg hro
                    have h9 := h9 gl o ro hg hro
                    rw [show isName c.next.text = false by simpa using t6] at h8
                    simp [Tk.w, k1] at h1
                    simp -implicitDefEqProofs [Tryz.f134, h1, h2, h3, h4, h5, h6, h7, h8, h9]
omit hfine hrec in -- 60
theorem pAtom_bad {c : Cu} (hk : c.Ok) (he : ¬ c.e = 0) : DoesU 134 (fun o => [rdr o]) c.w (.c (L [])) c.w := by
  have f : ∀ k t, ¬ c.is k t = true := fun k t h => by
    simp only [Cu.is, Bool.and_eq_true, decide_eq_true_eq] at h
    exact he h.1
  have hf : c.fail 2 = c := by unfold Cu.fail; rw [if_neg (fun h => he h.1)]
  have hfc := fail_c hk 2
  rw [hf] at hfc
  refine .intro Tryz.func134 (by kernel_rfl) (((next_c hk).and ((take_no' hk 1 bTrue (f _ _)).and ((take_no' hk 1 bFalse (f _ _)).and ((take_no' hk 1 bMin (f _ _)).and ((take_no' hk 1 bMax (f _ _)).and ((take_no' hk 3 [40] (f _ _)).and ((take_no' hk 1 bIn (f _ _)).and hfc))))))).imp fun k ⟨h1, h2, h3, h4, h5, h6, h7, h8⟩ gl o ro hg hro => ?_)
  have hnx : c.next = tk0 := by unfold Cu.next; rw [if_neg he]
  rw [hnx] at h1
  have h1 := fun ro => h1 gl o ro hg
  have h2 := h2 gl o ro hg hro
  have h3 := h3 gl o ro hg hro
  have h4 := h4 gl o ro hg hro
  have h5 := h5 gl o ro hg hro
  have h6 := h6 gl o ro hg hro
  have h7 := h7 gl o ro hg hro
  have h8 := h8 gl o ro hg hro
  simp [Tk.w, tk0] at h1
  simp -implicitDefEqProofs [Tryz.f134, h1, h2, h3, h4, h5, h6, h7, h8]
end
end Go.Proofs.YtckonoejmjblfaaGreat.Ev

/- Layer 6: the program's expressions of a level at least. -/
set_option linter.unusedVariables false
set_option linter.unusedSimpArgs false
set_option maxRecDepth 100000
set_option maxHeartbeats 4000000
namespace Go.Proofs.YtckonoejmjblfaaGreat.Ev
open Go Go.RowKit

/-- What begins an expression, and its level. -/
def fstP (rec : Nat → Cu → Cu × List Tm) (least : Nat) (c : Cu) : (Cu × List Tm) × Nat :=
  if c.e ≠ 0 then ((c, []), 8)
  else if least ≤ 3 ∧ c.is 1 bNot then (((rec 3 c.on).1, over 12 (rec 3 c.on).2 []), 3)
  else if c.is 3 [45] then (((rec 7 c.on).1, over 3 (rec 7 c.on).2 []), 7)
  else (atomP rec c, 8)
section
variable {rec : Nat → Cu → Cu × List Tm} (hfine : ∀ k c, Fine (rec k c) c) {n : Nat} (hrec : RdF 60 rec n)
include hfine hrec -- 60
theorem first_ev {c : Cu} (hk : c.Ok) (hn : c.r.length < n + 1) (hN : n < 100000) (least : Nat) : DoesU 105 (fun o => [rdr o, I least]) c.w (.tup [L ((fstP rec least c).1.2.map Tm.c), I (fstP rec least c).2]) (fstP rec least c).1.1.w := by
  unfold fstP
  have hlv := fun (x : Int) => (level_ev.imp fun k h => h x)
  have l12 := hlv 12
  have l3 := hlv 3
  have l0 := hlv 0
  rw [show levelI 12 = 3 from rfl] at l12
  rw [show levelI 3 = 7 from rfl] at l3
  rw [show levelI 0 = 8 from rfl] at l0
  have hl3 : ((least : Int) ≤ 3) = (least ≤ 3) := by simp only [eq_iff_iff]; omega
  by_cases he : c.e = 0
  rotate_left
  · rw [if_pos he]
    have f : ∀ k t, ¬ c.is k t = true := fun k t h => by
      simp only [Cu.is, Bool.and_eq_true, decide_eq_true_eq] at h
      exact he h.1
    refine .intro Tryz.func105 (by kernel_rfl) ((l12.and (l0.and ((take_no' hk 1 bNot (f _ _)).and ((take_no' hk 3 [45] (f _ _)).and (pAtom_bad hk he))))).imp fun k ⟨h1, h2, h3, h4, h5⟩ gl o ro hg hro => ?_)
    have h3 := h3 gl o ro hg hro
    have h4 := h4 gl o ro hg hro
    have h5 := h5 gl o ro hg hro
    by_cases hl : least ≤ 3
    · simp -implicitDefEqProofs [Tryz.f105, h1, h2, h3, h4, h5, hl3, hl]
    · simp -implicitDefEqProofs [Tryz.f105, h1, h2, h3, h4, h5, hl3, hl]
  · rw [if_neg (by simp [he])]
    by_cases hnot : c.is 1 bNot = true
    · obtain ⟨_, hr⟩ := Cu.is_real hnot (by simp)
      obtain ⟨a1, a2⟩ := hfine 3 c.on
      have hj := join_ev 12 [(rec 3 c.on).2] (by simp) (by simp; omega)
      have hov : (⟨12, 0, []⟩ :: [(rec 3 c.on).2].flatten : List Tm) = over 12 (rec 3 c.on).2 [] := by simp [over]
      rw [hov] at hj
      by_cases hl : least ≤ 3
      · rw [if_pos ⟨hl, hnot⟩]
        refine .intro Tryz.func105 (by kernel_rfl) ((l12.and ((take_yes hk 1 bNot hnot).and ((hrec c.on hk.on (by omega) 3 (by omega) (by omega)).and hj))).imp fun k ⟨h1, h3, h4, h5⟩ gl o ro hg hro => ?_)
        have h3 := h3 gl o ro hg hro
        have h4 := h4 _ o ro (get_set hg _) hro
        simp only [List.set_set] at h4
        generalize over 12 (rec 3 c.on).2 [] = ov at h5 ⊢
        generalize rec 3 c.on = q at h4 h5 ⊢
        obtain ⟨d, x⟩ := q
        simp only at h4 h5 ⊢
        simp at h4 h5
        simp -implicitDefEqProofs [Tryz.f105, h1, h3, h4, h5, hl3, hl]
      · rw [if_neg (fun h => hl h.1)]
        have hneg : ¬ c.is 3 [45] = true := isF (fun h => by
          simp only [Cu.is, Bool.and_eq_true, decide_eq_true_eq] at hnot
          rw [hnot.2.1] at h
          exact absurd h.1 (by decide))
        rw [if_neg hneg]
        refine .intro Tryz.func105 (by kernel_rfl) ((l12.and (l0.and ((take_no' hk 3 [45] hneg).and (pAtom_ev hfine hrec hk he hn hN)))).imp fun k ⟨h1, h2, h4, h5⟩ gl o ro hg hro => ?_)
        have h4 := h4 gl o ro hg hro
        have h5 := h5 gl o ro hg hro
        generalize atomP rec c = q at h5 ⊢
        obtain ⟨d, x⟩ := q
        simp only at h5 ⊢
        simp -implicitDefEqProofs [Tryz.f105, h1, h2, h4, h5, hl3, hl]
    · rw [if_neg (fun h => hnot h.2)]
      by_cases hneg : c.is 3 [45] = true
      · rw [if_pos hneg]
        obtain ⟨_, hr⟩ := Cu.is_real hneg (by simp)
        obtain ⟨a1, a2⟩ := hfine 7 c.on
        have hj := join_ev 3 [(rec 7 c.on).2] (by simp) (by simp; omega)
        have hov : (⟨3, 0, []⟩ :: [(rec 7 c.on).2].flatten : List Tm) = over 3 (rec 7 c.on).2 [] := by simp [over]
        rw [hov] at hj
        refine .intro Tryz.func105 (by kernel_rfl) ((l12.and (l3.and ((take_no' hk 1 bNot hnot).and ((take_yes hk 3 [45] hneg).and ((hrec c.on hk.on (by omega) 7 (by omega) (by omega)).and hj))))).imp fun k ⟨h1, h2, h3, h4, h5, h6⟩ gl o ro hg hro => ?_)
        have h3 := h3 gl o ro hg hro
        have h4 := h4 gl o ro hg hro
        have h5 := h5 _ o ro (get_set hg _) hro
        simp only [List.set_set] at h5
        generalize over 3 (rec 7 c.on).2 [] = ov at h6 ⊢
        generalize rec 7 c.on = q at h5 h6 ⊢
        obtain ⟨d, x⟩ := q
        simp only at h5 h6 ⊢
        simp at h5 h6
        by_cases hl : least ≤ 3
        · simp -implicitDefEqProofs [Tryz.f105, h1, h2, h3, h4, h5, h6, hl3, hl]
        · simp -implicitDefEqProofs [Tryz.f105, h1, h2, h3, h4, h5, h6, hl3, hl]
      · rw [if_neg hneg]
        refine .intro Tryz.func105 (by kernel_rfl) ((l12.and (l0.and ((take_no' hk 1 bNot hnot).and ((take_no' hk 3 [45] hneg).and (pAtom_ev hfine hrec hk he hn hN))))).imp fun k ⟨h1, h2, h3, h4, h5⟩ gl o ro hg hro => ?_)
        have h3 := h3 gl o ro hg hro
        have h4 := h4 gl o ro hg hro
        have h5 := h5 gl o ro hg hro
        generalize atomP rec c = q at h5 ⊢
        obtain ⟨d, x⟩ := q
        simp only at h5 ⊢
        by_cases hl : least ≤ 3
        · simp -implicitDefEqProofs [Tryz.f105, h1, h2, h3, h4, h5, hl3, hl]
        · simp -implicitDefEqProofs [Tryz.f105, h1, h2, h3, h4, h5, hl3, hl]
end
end Go.Proofs.YtckonoejmjblfaaGreat.Ev

/- Layer 6: the program's expressions are the document's. -/
set_option linter.unusedVariables false
set_option linter.unusedSimpArgs false
set_option maxRecDepth 100000
set_option maxHeartbeats 4000000
namespace Go.Proofs.YtckonoejmjblfaaGreat.Ev
open Go Go.RowKit

def topL (now : Nat) : Nat := if now = 4 then 3 else now
abbrev fK : List Nat := [1, 2, 5, 6]
def frS (least : Nat) (l : List Tm) (now : Nat) (o : Nat) (gl : List (List W)) (ro : Nat) : St :=
  st 56 [(1, V.int .i64 least), (2, .c (.w (.box 2 0))), (5, .c (L (l.map Tm.c))), (6, V.int .i64 now)] [(2, [.glo o 0])] [] gl ro
/-- When the loop is over. -/
theorem fr_out {c : Cu} (hk : c.Ok) (least now : Nat) (l : List Tm) (h : c.e = 0 → btw c.next ≠ 0 → levelI (btw c.next) < least ∨ (now : Int) < leftI (btw c.next)) : Evt fun K => ∀ gl o ro, (gl : List (List W))[o]? = some c.w → ro ≤ o → ∀ N n S, S.hav fK = frS least l now o gl ro →
    loopA (evC Tryz.prog cf 60 (ev K) N (bodyOf Tryz.f60 0)) fK [] (n + 1) S = some (.exit 0, frS least l now o gl ro) := by
  refine ((good_c (c := c)).and ((between_ev hk).and (level_ev.and left_ev))).imp fun K ⟨h1, h2, h3, h4⟩ gl o ro hg hro N n S hS => ?_
  have h1 := fun ro => h1 gl o ro hg
  have h2 := fun ro => h2 gl o ro hg
  have h3 := h3 (btw c.next)
  have h4 := h4 (btw c.next)
  refine loop_exit ?_
  rw [hS]
  by_cases he : c.e = 0
  · by_cases hb : btw c.next = 0
    · rw [hb] at h2
      simp [he] at h1
      simp -implicitDefEqProofs [frS, bodyOf, loopsOf, hv, Tryz.f60, h1, h2]
    · simp [he] at h1
      by_cases hl : levelI (btw c.next) < least
      · simp -implicitDefEqProofs [frS, bodyOf, loopsOf, hv, Tryz.f60, h1, h2, h3, hb, hl]
      · have hn : (now : Int) < leftI (btw c.next) := (h he hb).resolve_left hl
        simp -implicitDefEqProofs [frS, bodyOf, loopsOf, hv, Tryz.f60, h1, h2, h3, h4, hb, hl, hn]
  · simp [he] at h1
    simp -implicitDefEqProofs [frS, bodyOf, loopsOf, hv, Tryz.f60, h1]
section
variable {rec : Nat → Cu → Cu × List Tm} (hfine : ∀ k c, Fine (rec k c) c) {n : Nat}
variable (hrec : RdF 60 rec n)
include hfine
include hrec -- 60
/-- A round that goes on. -/
theorem fr_on {c : Cu} (hk : c.Ok) (hn : c.r.length < n + 1) (he : c.e = 0) (hb : btw c.next ≠ 0) (p : Nat) (hp : levelI (btw c.next) = p) (hp1 : 1 ≤ p) (hp6 : p ≤ 6) (least now : Nat) (hle : least ≤ p) (hnow : ¬ (now : Int) < leftI (btw c.next)) (l : List Tm) (hl : l.length + 2 * c.r.length < 300000) : Evt fun K => ∀ gl o ro, (gl : List (List W))[o]? = some c.w → ro ≤ o → ∀ N,
    (evC Tryz.prog cf 60 (ev K) N (bodyOf Tryz.f60 0) (frS least l now o gl ro)).map (hv fK) = some (.normal, frS least (over (btw c.next) l (rec (p + 1) c.on).2) p o (gl.set o (rec (p + 1) c.on).1.w) ro) := by
  obtain ⟨_, hr⟩ := Cu.next_real (c := c) (.inl (btw_real hb))
  obtain ⟨f1, f2⟩ := hfine (p + 1) c.on
  have hj := join_ev (btw c.next) [l, (rec (p + 1) c.on).2] (by simp) (by simp; omega)
  have hov : (⟨btw c.next, 0, []⟩ :: [l, (rec (p + 1) c.on).2].flatten : List Tm) = over (btw c.next) l (rec (p + 1) c.on).2 := by simp [over]
  rw [hov] at hj
  have hli : ¬ levelI (btw c.next) < least := by omega
  refine ((good_c (c := c)).and ((between_ev hk).and (level_ev.and (left_ev.and ((next_c hk).and ((take_yes hk c.next.kind c.next.text (isT he rfl rfl)).and ((hrec c.on hk.on (by omega) (p + 1) (by omega) (by omega)).and hj))))))).imp fun K ⟨h1, h2, h3, h4, h5, h6, h7, h8⟩ gl o ro hg hro N => ?_
  have h1 := fun ro => h1 gl o ro hg
  have h2 := fun ro => h2 gl o ro hg
  have h3 := h3 (btw c.next)
  have h4 := h4 (btw c.next)
  have h5 := fun ro => h5 gl o ro hg
  have h6 := h6 gl o ro hg hro
  have h7 := h7 _ o ro (get_set hg _) hro
  simp only [List.set_set] at h7
  rw [hp] at h3 hli
  have w : IntKind.i64.wrap ((p : Int) + 1) = (p : Int) + 1 := i64w _ (by omega)
  generalize over (btw c.next) l (rec (p + 1) c.on).2 = ov at h8 ⊢
  generalize rec (p + 1) c.on = q at h7 h8 ⊢
  obtain ⟨d, x⟩ := q
  simp only at h7 h8 ⊢
  generalize c.on.w = cw at h6 h7
  simp [Tk.w, he] at h1 h5 h7 h8
  simp -implicitDefEqProofs [frS, bodyOf, loopsOf, hv, Tryz.f60, h1, h2, h3, h4, h5, h6, h7, h8, hb, hli, hnow, w]
theorem fr_loop (least : Nat) (hls : 0 < least) : ∀ (m : Nat) (c : Cu) (now : Nat) (l : List Tm), c.Ok → c.r.length < m → c.r.length < n + 1 → 1 ≤ now → now ≤ 8 → l.length + 2 * c.r.length < 300000 → Evt fun K => ∀ gl o ro, (gl : List (List W))[o]? = some c.w → ro ≤ o → ∀ N S, m ≤ N → S.hav fK = frS least l now o gl ro → ∃ now' : Nat, True ∧
    loopA (evC Tryz.prog cf 60 (ev K) K (bodyOf Tryz.f60 0)) fK [] N S = some (.exit 0, frS least (hP rec (n + 1) least (topL now) c l).2 now' o (gl.set o (hP rec (n + 1) least (topL now) c l).1.w) ro)
  | 0, c, now, l, _, h, _, _, _, _ => by omega
  | m + 1, c, now, l, hk, hm, hn, n1, n8, hl => by
    by_cases hout : c.e = 0 → btw c.next ≠ 0 → levelI (btw c.next) < least ∨ (now : Int) < leftI (btw c.next)
    · refine (fr_out hk least now l hout).imp fun K q gl o ro hg hro N S hN hS => ⟨now, trivial, ?_⟩
      obtain ⟨N, rfl⟩ : ∃ x, N = x + 1 := ⟨N - 1, by omega⟩
      have : hP rec (n + 1) least (topL now) c l = (c, l) := by
        refine hP_stop _ _ _ fun h1 h2 => ?_
        rcases hout h1 h2 with h | h
        · exact .inl h
        · refine .inr ?_
          unfold leftI at h
          unfold topL
          split at h
          · rename_i h4
            rw [h4]
            split <;> omega
          · rcases btw_level h2 with h5 | h5 | h5 | h5 | h5 <;> rw [h5] at h ⊢ <;> split <;> omega
      rw [this, set_same hg]
      exact q gl o ro hg hro K N S hS
    · have he : c.e = 0 := Classical.byContradiction fun h => hout fun h' => absurd h' h
      have hb : btw c.next ≠ 0 := Classical.byContradiction fun h => hout fun _ h' => absurd h' h
      have h3 : ¬ levelI (btw c.next) < least := fun h => hout fun _ _ => .inl h
      have h4 : ¬ (now : Int) < leftI (btw c.next) := fun h => hout fun _ _ => .inr h
      obtain ⟨p, hp, hp1, hp6⟩ : ∃ p : Nat, levelI (btw c.next) = p ∧ 1 ≤ p ∧ p ≤ 6 := by
        rcases btw_level hb with h5 | h5 | h5 | h5 | h5
        · exact ⟨1, h5, by omega, by omega⟩
        · exact ⟨2, h5, by omega, by omega⟩
        · exact ⟨4, h5, by omega, by omega⟩
        · exact ⟨5, h5, by omega, by omega⟩
        · exact ⟨6, h5, by omega, by omega⟩
      have hle : least ≤ p := by rw [hp] at h3; omega
      have hpt : p ≤ topL now := by
        unfold leftI at h4
        rw [hp] at h4
        unfold topL
        split at h4
        · split <;> omega
        · rename_i h5
          have h6 : p = 1 ∨ p = 2 ∨ p = 5 ∨ p = 6 := by
            rcases btw_level hb with h7 | h7 | h7 | h7 | h7 <;> rw [hp] at h7 <;> omega
          split <;> omega
      obtain ⟨_, hr⟩ := Cu.next_real (c := c) (.inl (btw_real hb))
      obtain ⟨f1, f2⟩ := hfine (p + 1) c.on
      have fr := f1.2
      have hstep : hP rec (n + 1) least (topL now) c l = hP rec (n + 1) least (topL p) (rec (p + 1) c.on).1 (over (btw c.next) l (rec (p + 1) c.on).2) := hP_step hfine hls (topL now) c l p he hb hp hle hpt hn
      rw [hstep]
      have ih := fr_loop least hls m (rec (p + 1) c.on).1 p (over (btw c.next) l (rec (p + 1) c.on).2) (f1.1 hk.on) (by omega) (by omega) hp1 (by omega) (by rw [over_len]; omega)
      refine ((fr_on hfine hrec hk hn he hb p hp hp1 hp6 least now hle h4 l hl).and ih).imp fun K ⟨q1, q2⟩ gl o ro hg hro N S hN hS => ?_
      obtain ⟨N, rfl⟩ : ∃ x, N = x + 1 := ⟨N - 1, by omega⟩
      have r1 := q1 gl o ro hg hro K
      rw [← hS] at r1
      obtain ⟨S', hS', e⟩ := loop_on r1
      obtain ⟨now', _, h⟩ := q2 _ o ro (get_set hg _) hro N S' (by omega) hS'
      rw [List.set_set] at h
      exact ⟨now', trivial, by rw [e, h]⟩
omit hfine in
omit hrec in -- 60
theorem hP_skip (N least q : Nat) (hq : q + 1 = 3 ∨ q + 1 = 7 ∨ q + 1 = 8) (c : Cu) (l : List Tm) : hP rec N least (q + 1) c l = hP rec N least q c l := by
  rw [hP]
  split
  · rw [hP_low (by omega)]
  · have : lpP rec (q + 1) N c l = (c, l) := by
      cases N with
      | zero => rfl
      | succ N =>
        rw [lpP, if_neg]
        rintro ⟨_, h2, h3⟩
        rcases btw_level h2 with h5 | h5 | h5 | h5 | h5 <;> rw [h5] at h3 <;> omega
    rw [this]
omit hfine in
omit hrec in -- 60
theorem fst_lv {c : Cu} (he : c.e = 0) (least : Nat) (h1 : 1 ≤ least) (h7 : least ≤ 7) : hP rec (n + 1) least (topL (fstP rec least c).2) (fstP rec least c).1.1 (fstP rec least c).1.2 = lvP rec (n + 1) (8 - least) c := by
  rw [lvP_eq (n + 1) c he (8 - least) (by omega), show 8 - (8 - least) = least by omega]
  unfold fstP
  rw [if_neg (by simp [he])]
  by_cases hn : least ≤ 3 ∧ c.is 1 bNot = true
  · rw [if_pos hn, if_pos hn]
    exact hP_skip _ _ _ (.inl rfl) _ _
  · rw [if_neg hn, if_neg hn]
    by_cases hm : c.is 3 [45] = true
    · rw [if_pos hm, if_pos ⟨h7, hm⟩]
      exact hP_skip _ _ _ (.inr (.inl rfl)) _ _
    · rw [if_neg hm, if_neg (fun h => hm h.2)]
      exact hP_skip _ _ _ (.inr (.inr rfl)) _ _
omit hfine in
omit hrec in -- 60
theorem fst_now {c : Cu} (least : Nat) : 1 ≤ (fstP rec least c).2 ∧ (fstP rec least c).2 ≤ 8 := by
  unfold fstP
  split
  · simp
  · split
    · simp
    · split <;> simp
omit hrec in -- 60
theorem fst_fine {c : Cu} (least : Nat) : Fine (fstP rec least c).1 c := by
  unfold fstP
  split
  · exact ⟨.refl c, by simp⟩
  · rename_i he
    split
    · rename_i h
      obtain ⟨_, hr⟩ := Cu.is_real h.2 (by simp)
      obtain ⟨a1, a2⟩ := hfine 3 c.on
      exact ⟨a1.trans c.on_le, by simp only [over_len, List.length_nil]; omega⟩
    · split
      · rename_i h
        obtain ⟨_, hr⟩ := Cu.is_real h (by simp)
        obtain ⟨a1, a2⟩ := hfine 7 c.on
        exact ⟨a1.trans c.on_le, by simp only [over_len, List.length_nil]; omega⟩
      · exact atomP_fine hfine (by simpa using he)
theorem from_step {c : Cu} (hk : c.Ok) (hn : c.r.length < n + 1) (hN : n < 100000) (least : Nat) (h1 : 1 ≤ least) (h7 : least ≤ 7) : DoesU 60 (fun o => [rdr o, I least]) c.w (.c (L ((lvP rec (n + 1) (8 - least) c).2.map Tm.c))) (lvP rec (n + 1) (8 - least) c).1.w := by
  obtain ⟨g1, g2⟩ := fst_fine hfine (c := c) least
  have gr := g1.2
  obtain ⟨m1, m2⟩ := fst_now (rec := rec) (c := c) least
  have hlp := fr_loop hfine hrec least h1 (n + 1) (fstP rec least c).1.1 (fstP rec least c).2 (fstP rec least c).1.2 (g1.1 hk) (by omega) (by omega) m1 m2 (by omega)
  have hval : hP rec (n + 1) least (topL (fstP rec least c).2) (fstP rec least c).1.1 (fstP rec least c).1.2 = lvP rec (n + 1) (8 - least) c := by
    by_cases he : c.e = 0
    · exact fst_lv he least h1 h7
    · have e1 : fstP rec least c = ((c, []), 8) := by unfold fstP; rw [if_pos he]
      have e2 : lvP rec (n + 1) (8 - least) c = (c, []) := by
        generalize 8 - least = j
        cases j <;> (rw [lvP, if_pos he])
      rw [e1, e2]
      exact hP_stop _ _ _ fun h => absurd h he
  rw [hval] at hlp
  refine .intro Tryz.func60 (by kernel_rfl) (((first_ev hfine hrec hk hn hN least).and (hlp.and (Evt.ge (n + 1)))).imp fun K ⟨q1, q2, hK⟩ gl o ro hg hro => ?_)
  have q1 := q1 gl o ro hg hro
  have tail : ∀ S : St, S.hav fK = frS least (fstP rec least c).1.2 (fstP rec least c).2 o (gl.set o (fstP rec least c).1.1.w) ro → ∃ now' : Nat, True ∧ loopC Tryz.prog cf 60 (ev K) K (bodyOf Tryz.f60 0) S = _ := fun S hS => q2 _ o ro (get_set hg _) hro K S (by omega) hS
  simp only [List.set_set] at tail
  clear hlp hval q2 g1 g2 gr m1 m2 hfine hrec
  generalize fstP rec least c = q at q1 tail
  obtain ⟨⟨d, x⟩, now⟩ := q
  simp only at q1 tail
  generalize lvP rec (n + 1) (8 - least) c = r at tail ⊢
  obtain ⟨d', x'⟩ := r
  simp only at tail ⊢
  simp -implicitDefEqProofs [Tryz.f60, q1]
  refine bind_ex2 (tail _ ?_) fun b _ => ?_
  · simp [frS]
  · simp [frS]
end
/-- The program's answer of a level. -/
theorem from_ev : ∀ (n : Nat), n < 100000 → RdF 60 (lvN n) n
  | 0, _ => fun d _ h _ _ _ => by omega
  | n + 1, hN => fun d hd hn k k1 k7 => from_step (lvN_fine n) (from_ev n (by omega)) hd hn (by omega) k k1 k7
end Go.Proofs.YtckonoejmjblfaaGreat.Ev

/- Layer 6: what is read without a fault is one whole expression. -/
set_option linter.unusedVariables false
set_option linter.unusedSimpArgs false
set_option maxRecDepth 100000
set_option maxHeartbeats 4000000
namespace Go.Proofs.YtckonoejmjblfaaGreat.Ev
open Go Go.RowKit

/-- One whole expression of terms that may be. -/
def Wl (l : List Tm) : Prop := ∃ e : Tr, e.wf ∧ l = e.flat ∧ ∀ t ∈ l, t.may = true
def Sd (x : Cu × List Tm) : Prop := x.1.e = 0 → Wl x.2
theorem Wl.leaf {t : Tm} (h : arity t.op = 0) (hm : t.may = true) : Wl [t] := ⟨.leaf t, h, rfl, by simpa using hm⟩
theorem Wl.one {op : Int} {a : List Tm} (h : arity op = 1) (hm : Tm.may ⟨op, 0, []⟩ = true) (ha : Wl a) : Wl (over op a []) := by
  obtain ⟨e, h1, h2, h3⟩ := ha
  refine ⟨.one ⟨op, 0, []⟩ e, ⟨h, h1⟩, by simp [over, Tr.flat, h2], ?_⟩
  intro t ht
  simp only [over, List.append_nil, List.mem_cons] at ht
  rcases ht with rfl | ht
  · exact hm
  · exact h3 t ht
theorem Wl.two {op : Int} {a b : List Tm} (h : arity op = 2) (hm : Tm.may ⟨op, 0, []⟩ = true) (ha : Wl a) (hb : Wl b) : Wl (over op a b) := by
  obtain ⟨e, h1, h2, h3⟩ := ha
  obtain ⟨f, g1, g2, g3⟩ := hb
  refine ⟨.two ⟨op, 0, []⟩ e f, ⟨h, h1, g1⟩, by simp [over, Tr.flat, h2, g2], ?_⟩
  intro t ht
  simp only [over, List.mem_cons, List.mem_append] at ht
  rcases ht with rfl | ht | ht
  · exact hm
  · exact h3 t ht
  · exact g3 t ht
theorem Cu.fail_e {c : Cu} {e : Int} (he : e ≠ 0) : (c.fail e).e ≠ 0 := by
  unfold Cu.fail
  split
  · exact he
  · rename_i h; intro h'; exact h ⟨h', he⟩
theorem Cu.is_e {c : Cu} {k : Int} {t : List UInt8} (h : c.is k t = true) : c.e = 0 := by
  unfold Cu.is at h
  simp only [Bool.and_eq_true, decide_eq_true_eq] at h
  exact h.1
theorem Cu.want_e {c : Cu} {k : Int} {t : List UInt8} (h : (c.want k t).e = 0) : c.is k t = true ∧ c.e = 0 := by
  unfold Cu.want at h
  split at h
  · rename_i hi; exact ⟨hi, c.is_e hi⟩
  · exact absurd h (c.fail_e (by decide))
theorem Cu.name_e {c : Cu} (h : c.name.1.e = 0) : c.e = 0 ∧ isName c.name.2 = true := by
  unfold Cu.name at h ⊢
  split at h
  · rename_i hn
    rw [if_pos hn]
    unfold Cu.named at hn
    simp only [Bool.and_eq_true, decide_eq_true_eq] at hn
    exact ⟨hn.1, hn.2.2⟩
  · exact absurd h (c.fail_e (by decide))
theorem numOf_cases (s : List UInt8) : (numOf s).2 ≠ 0 ∨ (0 ≤ (numOf s).1 ∧ (numOf s).1 ≤ 1000000) := by
  rcases getR_cases s with ⟨e, h, he⟩ | ⟨x, h, _, h1, h2⟩
  · left; simp only [numOf, h]; exact he
  · right; simp only [numOf, h]; exact ⟨h1, h2⟩
theorem Cu.number_e {c : Cu} {m : Int} (h : (c.number m).1.e = 0) : c.e = 0 ∧ 0 ≤ (c.number m).2 ∧ (c.number m).2 ≤ 1000000 := by
  unfold Cu.number at h ⊢
  split at h
  · rename_i h1
    rw [if_pos h1]
    split at h
    · rename_i h2
      rw [if_pos h2]
      split at h
      · exact absurd h (c.fail_e (by decide))
      · rename_i h3
        rw [if_neg h3]
        rcases numOf_cases c.next.text with h4 | h4
        · exact absurd h2 h4
        · exact ⟨h1.1, h4⟩
    · rename_i h2
      exact absurd h (c.fail_e h2)
  · exact absurd h (c.fail_e (by decide))
theorem btw_op {t : Tk} (h : btw t ≠ 0) : arity (btw t) = 2 ∧ Tm.may ⟨btw t, 0, []⟩ = true := by
  unfold btw at h ⊢
  split at h
  · rename_i hk
    rw [if_pos hk]
    generalize hf : (([4, 5, 6, 7, 8, 9, 10, 11, 12, 13, 14, 15, 16, 17, 18, 19, 20] : List Int).find? fun op => decide (signB op ≠ []) && decide (signB op = t.text)) = o at h ⊢
    cases o with
    | none => simp at h
    | some x =>
      have hm := List.mem_of_find?_eq_some hf
      have hp := List.find?_some hf
      simp only [Bool.and_eq_true, decide_eq_true_eq] at hp
      simp only [Option.getD_some]
      simp only [List.mem_cons, List.not_mem_nil, or_false] at hm
      rcases hm with h | h | h | h | h | h | h | h | h | h | h | h | h | h | h | h | h <;> subst h <;> first | (exact absurd rfl hp.1) | (simp [arity, Tm.may])
  · exact absurd rfl h
section
variable {rec : Nat → Cu → Cu × List Tm} (hfine : ∀ k c, Fine (rec k c) c) {n : Nat} (hs : ∀ k c, c.r.length < n → Sd (rec k c)) (hb : ∀ k c, (rec k c).1.e = 0 → c.e = 0)
include hfine hs hb
theorem twoP_sd {op : Int} (h : arity op = 2) (hm : Tm.may ⟨op, 0, []⟩ = true) {c : Cu} (hn : c.r.length < n) : Sd (twoP rec op c) := by
  intro he
  obtain ⟨a1, a2⟩ := hfine 1 (c.want 3 [40])
  have w1 := (c.want_le 3 [40]).2
  have w2 := ((rec 1 (c.want 3 [40])).1.want_le 3 [44]).2
  have e1 := (Cu.want_e he).2
  have e2 := (Cu.want_e (hb _ _ e1)).2
  have := a1.2
  exact Wl.two h hm (hs _ _ (by omega) e2) (hs _ _ (by omega) e1)
theorem atomP_sd {c : Cu} (he : c.e = 0) (hn : c.r.length < n + 1) : Sd (atomP rec c) := by
  have hfail : Sd (c.fail 2, []) := fun h => absurd h (c.fail_e (by decide))
  unfold atomP
  split
  · intro h
    have := Cu.number_e h
    exact Wl.leaf (by simp [arity]) (by simp [Tm.may, this.2])
  · split
    · rename_i h
      obtain ⟨_, hr⟩ := Cu.is_real h (by simp)
      intro h
      exact hs _ _ (by omega) (Cu.want_e h).2
    · split
      · exact hfail
      · rename_i hk
        have hk : c.next.kind = 1 := by simpa using hk
        obtain ⟨_, hr⟩ := Cu.next_real (c := c) (.inr (by rw [hk]; simp))
        split
        · exact fun _ => Wl.leaf (by simp [arity]) (by simp [Tm.may])
        · split
          · exact fun _ => Wl.leaf (by simp [arity]) (by simp [Tm.may])
          · split
            · intro h
              have := Cu.name_e (Cu.want_e h).2
              exact Wl.leaf (by simp [arity]) (by simp [Tm.may, this.2])
            · split
              · exact twoP_sd hfine hs hb (by simp [arity]) (by simp [Tm.may]) (by omega)
              · split
                · exact twoP_sd hfine hs hb (by simp [arity]) (by simp [Tm.may]) (by omega)
                · split
                  · rename_i h
                    exact fun _ => Wl.leaf (by simp [arity]) (by simp [Tm.may, h])
                  · exact hfail
omit hb in
theorem lpP_sd (k : Nat) : ∀ (m : Nat) (c : Cu) (l : List Tm), c.r.length < n + 1 → Sd (c, l) → Sd (lpP rec k m c l)
  | 0, c, l, _, h => h
  | m + 1, c, l, hn, h => by
    unfold lpP
    split
    · rename_i hc
      obtain ⟨_, hr⟩ := Cu.next_real (c := c) (.inl (btw_real hc.2.1))
      obtain ⟨a1, a2⟩ := hfine (k + 1) c.on
      have := a1.2
      obtain ⟨o1, o2⟩ := btw_op hc.2.1
      have hx : Sd ((rec (k + 1) c.on).1, over (btw c.next) l (rec (k + 1) c.on).2) := fun h' => Wl.two o1 o2 (h hc.1) (hs _ _ (by omega) h')
      split
      · exact hx
      · exact lpP_sd k m _ _ (by omega) hx
    · exact h
theorem lvP_sd (m : Nat) : ∀ (j : Nat) (c : Cu), c.r.length < n + 1 → Sd (lvP rec m j c)
  | 0, c, hn => by
    unfold lvP
    split
    · rename_i h; exact fun h' => absurd h' h
    · rename_i h; exact atomP_sd hfine hs hb (by simpa using h) hn
  | j + 1, c, hn => by
    unfold lvP
    split
    · rename_i h; exact fun h' => absurd h' h
    · split
      · rename_i h
        obtain ⟨_, hr⟩ := Cu.is_real h.2 (by simp)
        exact fun h' => Wl.one (by simp [arity]) (by simp [Tm.may]) (hs _ _ (by omega) h')
      · split
        · rename_i h
          obtain ⟨_, hr⟩ := Cu.is_real h.2 (by simp)
          exact fun h' => Wl.one (by simp [arity]) (by simp [Tm.may]) (hs _ _ (by omega) h')
        · obtain ⟨a1, a2⟩ := lvP_fine hfine m j c
          have := a1.2
          exact lpP_sd hfine hs _ _ _ _ (by omega) (lvP_sd m j c hn)
end
theorem lvN_e : ∀ (n k : Nat) (c : Cu), (lvN n k c).1.e = 0 → c.e = 0
  | 0, _, _, h => h
  | n + 1, k, c, h => by
    by_cases he : c.e = 0
    · exact he
    · have e2 : lvP (lvN n) (n + 1) (8 - k) c = (c, []) := by
        generalize 8 - k = j
        cases j <;> (rw [lvP, if_pos he])
      rw [lvN, e2] at h
      exact h
theorem lvN_sd : ∀ (n k : Nat) (c : Cu), c.r.length < n → Sd (lvN n k c)
  | 0, _, _, h => by omega
  | n + 1, k, c, h => lvP_sd (lvN_fine n) (fun k c h => lvN_sd n k c h) (lvN_e n) (n + 1) (8 - k) c h
/-- How deep. -/
def depV (l : List Tm) : Nat := match stk l with
  | some [e] => e.dep
  | _ => 0
theorem depV_flat {e : Tr} (h : e.wf) : depV e.flat = e.dep := by unfold depV; rw [stk_whole e h]
theorem depV_eq {e : Tr} (h : e.wf) {l : List Tm} (hl : l = e.flat) : depV l = e.dep := by rw [hl, depV_flat h]
/-- The expression that is next. -/
def readP (c : Cu) : Cu × List Tm :=
  let x := lvN (c.r.length + 1) 1 c
  let d := if x.1.e = 0 then (if 40 < x.2.length then x.1.fail 8 else if 12 < depV x.2 then x.1.fail 6 else x.1) else x.1
  (d, if d.e = 0 then x.2 else [])
theorem fo_dep : ∀ (e : Tr), e.flat.length ≤ 1000000 → e.fo depM = e.dep
  | .leaf t, _ => by simp [Tr.fo, depM, Tr.dep, maxL]
  | .one t a, h => by
    have ih := fo_dep a (by simp [Tr.flat] at h; omega)
    have := a.dep_le
    have := Tr.dep_le (.one t a)
    simp only [Tr.fo, ih, depM, Tr.dep, maxL, List.cons_append, List.nil_append, List.tail_cons, List.headD_cons] at *
    rw [i64w _ (by split <;> omega)]
    split <;> omega
  | .two t a b, h => by
    have ih := fo_dep a (by simp [Tr.flat] at h; omega)
    have ih2 := fo_dep b (by simp [Tr.flat] at h; omega)
    have := Tr.dep_le (.two t a b)
    simp only [Tr.fo, ih, ih2, depM, Tr.dep, maxL, List.cons_append, List.nil_append, List.tail_cons, List.headD_cons] at *
    rw [i64w _ (by split <;> split <;> omega)]
    split <;> split <;> omega
theorem foldD_dep {e : Tr} (h : e.wf) (hl : e.flat.length ≤ 40) : foldD depM e.flat = e.dep := by
  rw [foldD_tree depM e h hl, fo_dep e (by omega)]
end Go.Proofs.YtckonoejmjblfaaGreat.Ev

/- Layer 6: an expression of the last level, as the document reads it. -/
set_option linter.unusedVariables false
set_option linter.unusedSimpArgs false
set_option maxRecDepth 100000
set_option maxHeartbeats 4000000
namespace Go.Proofs.YtckonoejmjblfaaGreat.Ev
open Go Go.RowKit

theorem rMark_c {c : Cu} (hk : c.Ok) (t : List UInt8) : Gives 22 [c.ref, T t] (.c (c.want 3 t).ref) := by
  refine .intro Tryz.func22 (by kernel_rfl) ((rWant_c hk 3 t).imp fun k h ro gl => ?_)
  simp [Cu.ref, cR] at h
  simp -implicitDefEqProofs [Tryz.f22, Cu.ref, cR, h]
/-- What the document's reader answers. -/
def resR (x : Cu × List Tm) : V := .tup [x.1.ref, L (x.2.map Tm.c)]
section
variable {rec : Nat → Cu → Cu × List Tm} (hfine : ∀ k c, Fine (rec k c) c) {n : Nat} (hrec : ∀ d : Cu, d.Ok → d.r.length < n → ∀ k : Nat, 1 ≤ k → k ≤ 8 → Gives 42 [d.ref, I k] (resR (rec k d)))
include hfine hrec -- 42
theorem rAtom_ev {c : Cu} (hk : c.Ok) (he : c.e = 0) (hn : c.r.length < n + 1) (hN : n < 100000) : Gives 64 [c.ref] (resR (atomP rec c)) := by
  unfold atomP
  by_cases k2 : c.next.kind = 2
  · rw [if_pos k2]
    refine .intro Tryz.func64 (by kernel_rfl) (((rNext_c (c := c)).and (rNumber_c hk 1000000)).imp fun k ⟨h1, h2⟩ ro gl => ?_)
    generalize c.number 1000000 = q at h2 ⊢
    obtain ⟨d, x⟩ := q
    simp [Cu.ref, cR, Tk.w, k2] at h1 h2
    simp -implicitDefEqProofs [Tryz.f64, Cu.ref, cR, resR, Tm.c, h1, h2]
  · rw [if_neg k2]
    by_cases kp : c.is 3 [40] = true
    · rw [if_pos kp]
      obtain ⟨_, hr⟩ := Cu.is_real kp (by simp)
      obtain ⟨f1, f2⟩ := hfine 1 c.on
      refine .intro Tryz.func64 (by kernel_rfl) (((rNext_c (c := c)).and ((rTake_c hk 3 [40]).and ((hrec c.on hk.on (by omega) 1 (by omega) (by omega)).and (rMark_c (f1.1 hk.on) [41])))).imp fun k ⟨h1, h2, h3, h4⟩ ro gl => ?_)
      rw [Cu.take, if_pos kp, kp] at h2
      generalize rec 1 c.on = q at h3 h4 ⊢
      obtain ⟨d, x⟩ := q
      simp only [resR] at h3 h4 ⊢
      generalize d.want 3 [41] = d' at h4 ⊢
      generalize c.on = c' at h2 h3
      simp [Cu.ref, cR, Tk.w] at h1 h2 h3 h4
      simp -implicitDefEqProofs [Tryz.f64, Cu.ref, cR, h1, h2, h3, h4, k2]
    · rw [if_neg kp]
      have hT := rTake_c hk 3 [40]
      rw [Cu.take, if_neg kp, show c.is 3 [40] = false by simpa using kp] at hT
      by_cases k1 : c.next.kind = 1
      rotate_left
      · rw [if_pos k1]
        refine .intro Tryz.func64 (by kernel_rfl) (((rNext_c (c := c)).and (hT.and (rFail_c (c := c) 2))).imp fun k ⟨h1, h2, h3⟩ ro gl => ?_)
        simp only [resR]
        generalize c.fail 2 = d at h3 ⊢
        simp [Cu.ref, cR, Tk.w] at h1 h2 h3
        simp -implicitDefEqProofs [Tryz.f64, Cu.ref, cR, h1, h2, h3, k1, k2]
      · rw [if_neg (by simp [k1])]
        obtain ⟨_, hr⟩ := Cu.next_real (c := c) (.inr (by rw [k1]; simp))
        have hO := rOn_c hk
        by_cases t1 : c.next.text = bTrue
        · rw [if_pos t1]
          refine .intro Tryz.func64 (by kernel_rfl) (((rNext_c (c := c)).and (hT.and hO)).imp fun k ⟨h1, h2, h3⟩ ro gl => ?_)
          simp only [resR]
          generalize c.on = d at h3 ⊢
          simp [Cu.ref, cR, Tk.w] at h1 h2 h3
          simp -implicitDefEqProofs [Tryz.f64, Cu.ref, cR, Tm.c, h1, h2, h3, k1, t1]
        · rw [if_neg t1]
          by_cases t2 : c.next.text = bFalse
          · rw [if_pos t2]
            refine .intro Tryz.func64 (by kernel_rfl) (((rNext_c (c := c)).and (hT.and hO)).imp fun k ⟨h1, h2, h3⟩ ro gl => ?_)
            simp only [resR]
            generalize c.on = d at h3 ⊢
            simp [Cu.ref, cR, Tk.w] at h1 h2 h3
            simp -implicitDefEqProofs [Tryz.f64, Cu.ref, cR, Tm.c, h1, h2, h3, k1, t2]
          · rw [if_neg t2]
            by_cases t3 : c.next.text = bIn
            · rw [if_pos t3]
              have w1 := c.on.want_le 3 [40]
              have w2 := (c.on.want 3 [40]).name_le
              refine .intro Tryz.func64 (by kernel_rfl) (((rNext_c (c := c)).and (hT.and (hO.and ((rMark_c hk.on [40]).and ((rName_c (w1.1 hk.on)).and (rMark_c (w2.1 (w1.1 hk.on)) [41])))))).imp fun k ⟨h1, h2, h3, h4, h5, h6⟩ ro gl => ?_)
              simp only [resR]
              generalize hd : c.on = d at *
              generalize hd2 : d.want 3 [40] = d2 at *
              generalize hd3 : d2.name = q at *
              obtain ⟨d3, x⟩ := q
              simp only at h6 ⊢
              generalize hd4 : d3.want 3 [41] = d4 at *
              simp [Cu.ref, cR, Tk.w] at h1 h2 h3 h4 h5 h6
              simp -implicitDefEqProofs [Tryz.f64, Cu.ref, cR, Tm.c, h1, h2, h3, h4, h5, h6, k1, t3]
            · rw [if_neg t3]
              have two : ∀ (op : Int) (tx : List UInt8), (op = 7 ∧ tx = bMin ∨ op = 8 ∧ tx = bMax) → c.next.text = tx → Gives 64 [c.ref] (resR (twoP rec op c.on)) := by
                intro op tx hop ht
                have w1 := c.on.want_le 3 [40]
                obtain ⟨a1, a2⟩ := hfine 1 (c.on.want 3 [40])
                have w2 := ((rec 1 (c.on.want 3 [40])).1.want_le 3 [44])
                obtain ⟨b1, b2⟩ := hfine 1 ((rec 1 (c.on.want 3 [40])).1.want 3 [44])
                have e1 := w1.2
                have e2 := a1.2
                have e3 := w2.2
                have o1 := w1.1 hk.on
                have o2 := a1.1 o1
                have o3 := w2.1 o2
                have o4 := b1.1 o3
                have hov := rOver_ev op (rec 1 (c.on.want 3 [40])).2 (rec 1 ((rec 1 (c.on.want 3 [40])).1.want 3 [44])).2 (by omega)
                refine .intro Tryz.func64 (by kernel_rfl) (((rNext_c (c := c)).and (hT.and (hO.and ((rMark_c hk.on [40]).and ((hrec _ o1 (by omega) 1 (by omega) (by omega)).and ((rMark_c o2 [44]).and ((hrec _ o3 (by omega) 1 (by omega) (by omega)).and ((rMark_c o4 [41]).and hov)))))))).imp fun k ⟨h1, h2, h3, h4, h5, h6, h7, h8, h9⟩ ro gl => ?_)
                simp only [resR, twoP] at *
                clear e1 e2 e3 a1 a2 b1 b2 w1 w2 hov hrec hfine hT hO
                generalize hd : c.on = d at *
                generalize hd2 : d.want 3 [40] = d2 at *
                generalize hd3 : rec 1 d2 = q at *
                obtain ⟨d3, x⟩ := q
                simp only at h6 h7 h8 h9 o2 o3 o4 ⊢
                generalize hd4 : d3.want 3 [44] = d4 at *
                generalize hd5 : rec 1 d4 = q2 at *
                obtain ⟨d5, y⟩ := q2
                simp only at h8 h9 ⊢
                generalize hd6 : d5.want 3 [41] = d6 at *
                generalize hov : over op x y = ov at *
                simp [Cu.ref, cR, Tk.w] at h1 h2 h3 h4 h5 h6 h7 h8 h9
                rcases hop with ⟨rfl, rfl⟩ | ⟨rfl, rfl⟩
                · simp -implicitDefEqProofs [Tryz.f64, Cu.ref, cR, h1, h2, h3, h4, h5, h6, h7, h8, h9, k1, ht]
                · simp -implicitDefEqProofs [Tryz.f64, Cu.ref, cR, h1, h2, h3, h4, h5, h6, h7, h8, h9, k1, ht]
              by_cases t4 : c.next.text = bMin
              · rw [if_pos t4]
                exact two 7 bMin (.inl ⟨rfl, rfl⟩) t4
              · rw [if_neg t4]
                by_cases t5 : c.next.text = bMax
                · rw [if_pos t5]
                  exact two 8 bMax (.inr ⟨rfl, rfl⟩) t5
                · rw [if_neg t5]
                  by_cases t6 : isName c.next.text = true
                  · rw [if_pos t6]
                    refine .intro Tryz.func64 (by kernel_rfl) (((rNext_c (c := c)).and (hT.and (hO.and (rIs_ev _ hk.next)))).imp fun k ⟨h1, h2, h3, h4⟩ ro gl => ?_)
                    simp only [resR]
                    generalize c.on = d at h3 ⊢
                    rw [t6] at h4
                    simp [Cu.ref, cR, Tk.w] at h1 h2 h3 h4
                    simp -implicitDefEqProofs [Tryz.f64, Cu.ref, cR, Tm.c, h1, h2, h3, h4, k1, t1, t2, t3, t4, t5]
                  · rw [if_neg t6]
                    refine .intro Tryz.func64 (by kernel_rfl) (((rNext_c (c := c)).and (hT.and ((rFail_c (c := c) 2).and (rIs_ev _ hk.next)))).imp fun k ⟨h1, h2, h3, h4⟩ ro gl => ?_)
                    simp only [resR]
                    generalize c.fail 2 = d at h3 ⊢
                    rw [show isName c.next.text = false by simpa using t6] at h4
                    simp [Cu.ref, cR, Tk.w] at h1 h2 h3 h4
                    simp -implicitDefEqProofs [Tryz.f64, Cu.ref, cR, Tm.c, h1, h2, h3, h4, k1, t1, t2, t3, t4, t5]
end
end Go.Proofs.YtckonoejmjblfaaGreat.Ev

/- Layer 6: a level's expressions, as the document reads them: what stands between. -/
set_option linter.unusedVariables false
set_option linter.unusedSimpArgs false
set_option maxRecDepth 100000
set_option maxHeartbeats 4000000
namespace Go.Proofs.YtckonoejmjblfaaGreat.Ev
open Go Go.RowKit

def Cu.cells (c : Cu) : List W := [.d (.sl (c.r.map Tk.c)), .d (.int .i64 (was c.p).ln), .d (.int .i64 (was c.p).cl), .d (.int .i64 c.ln), .d (.int .i64 c.cl), .d (.int .i64 c.e)]
abbrev zeroCu : List W := [.full [], .d (.int .i64 0), .d (.int .i64 0), .d (.int .i64 0), .d (.int .i64 0), .d (.int .i64 0)]
def rlS (k : Nat) (c : Cu) (l : List Tm) (more : Bool) (gl : List (List W)) (ro : Nat) : St :=
  st 114 [(1, V.int .i64 k), (2, .c (.w (.box 2 0))), (4, .c (.w (.box 4 0))), (10, .c (L (l.map Tm.c))), (11, .c (L ((signsB k).map sD))), (12, .c (L ((opsI k).map zD))), (13, V.bool more)] [(2, c.cells), (4, zeroCu)] [] gl ro
abbrev rlK : List Nat := [1, 2, 4, 10, 11, 12, 13]
theorem rl_out (call : Caller) (N k : Nat) (c : Cu) (l : List Tm) (more : Bool) (h : more = false ∨ c.e ≠ 0) (gl : List (List W)) (ro n : Nat) (S : St) (hS : S.hav rlK = rlS k c l more gl ro) :
    loopA (evC Tryz.prog cf 42 call N (bodyOf Tryz.f42 0)) rlK [] (n + 1) S = some (.exit 0, rlS k c l more gl ro) := by
  refine loop_exit ?_
  rw [hS]
  by_cases hm : more = false
  · subst hm
    simp -implicitDefEqProofs [rlS, Cu.cells, bodyOf, loopsOf, hv, Tryz.f42]
  · have he : c.e ≠ 0 := by
      rcases h with h | h
      · exact absurd h hm
      · exact h
    have hm : more = true := by simpa using hm
    subst hm
    simp -implicitDefEqProofs [rlS, Cu.cells, bodyOf, loopsOf, hv, Tryz.f42, he]
section
variable {rec : Nat → Cu → Cu × List Tm} (hfine : ∀ k c, Fine (rec k c) c) {n : Nat} (hrec : ∀ d : Cu, d.Ok → d.r.length < n → ∀ k : Nat, 1 ≤ k → k ≤ 8 → Gives 42 [d.ref, I k] (resR (rec k d)))
include hfine hrec -- 42
omit hfine hrec in -- 42
/-- A round in which no sign of the level is next. -/
theorem rl_no {c : Cu} (hk : c.Ok) (he : c.e = 0) {k : Nat} (k1 : 1 ≤ k) (k8 : k ≤ 8) (h : ¬ (btw c.next ≠ 0 ∧ levelI (btw c.next) = k)) (l : List Tm) : Evt fun K => ∀ N gl ro,
    (evC Tryz.prog cf 42 (ev K) N (bodyOf Tryz.f42 0) (rlS k c l true gl ro)).map (hv rlK) = some (.normal, rlS k c l false gl ro) := by
  have hlen : (signsB k).length < 4611686018427387904 := by
    rcases eight k1 k8 with h | h | h | h | h | h | h | h <;> subst h <;> decide
  refine ((rNext_c (c := c)).and (rPlace_ev (signsB k) c.next.text hlen)).imp fun K ⟨h1, h2⟩ N gl ro => ?_
  simp [Cu.ref, cR, Tk.w, he] at h1
  by_cases hkd : c.next.kind = 3 ∨ c.next.kind = 1
  · have hp := place_not hkd h
    generalize place (signsB k) c.next.text 0 = i at h2 hp
    simp -implicitDefEqProofs [rlS, Cu.cells, bodyOf, loopsOf, hv, Tryz.f42, he, h1, h2, hp]
  · simp only [not_or] at hkd
    generalize place (signsB k) c.next.text 0 = i at h2
    by_cases hp : 0 ≤ i
    · simp -implicitDefEqProofs [rlS, Cu.cells, bodyOf, loopsOf, hv, Tryz.f42, he, h1, h2, hp, hkd.1, hkd.2]
    · simp -implicitDefEqProofs [rlS, Cu.cells, bodyOf, loopsOf, hv, Tryz.f42, he, h1, h2, hp]
/-- A round in which one is. -/
theorem rl_yes {c : Cu} (hk : c.Ok) (hn : c.r.length < n + 1) {k : Nat} (k1 : 1 ≤ k) (k8 : k ≤ 7) (h : c.e = 0 ∧ btw c.next ≠ 0 ∧ levelI (btw c.next) = k) (l : List Tm) (hl : l.length + 2 * c.r.length < 300000) : Evt fun K => ∀ N gl ro,
    (evC Tryz.prog cf 42 (ev K) N (bodyOf Tryz.f42 0) (rlS k c l true gl ro)).map (hv rlK) = some (.normal, rlS k (rec (k + 1) c.on).1 (over (btw c.next) l (rec (k + 1) c.on).2) (decide (k ≠ 4)) gl ro) := by
  obtain ⟨he, hb, hlv⟩ := h
  have hlen : (signsB k).length < 4611686018427387904 := by
    rcases eight k1 (by omega : k ≤ 8) with h | h | h | h | h | h | h | h <;> subst h <;> decide
  obtain ⟨_, hr⟩ := Cu.next_real (c := c) (.inl (btw_real hb))
  obtain ⟨s1, s2, s3, hkd⟩ := btw_sign hb
  obtain ⟨j, hj1, hj2⟩ := place_btw hkd ⟨hb, hlv⟩
  obtain ⟨f1, f2⟩ := hfine (k + 1) c.on
  have hov := rOver_ev (btw c.next) l (rec (k + 1) c.on).2 (by omega)
  refine ((rNext_c (c := c)).and ((rPlace_ev (signsB k) c.next.text hlen).and ((rOn_c hk).and ((hrec c.on hk.on (by omega) (k + 1) (by omega) (by omega)).and hov)))).imp fun K ⟨h1, h2, h3, h4, h5⟩ N gl ro => ?_
  rw [hj1] at h2
  have hjl : j < (opsI k).length := (List.getElem?_eq_some_iff.1 hj2).1
  have hjl' : (j : Int) < (opsI k).length := by omega
  have hje : (opsI k)[j] = btw c.next := (List.getElem?_eq_some_iff.1 hj2).2
  have w : IntKind.i64.wrap ((k : Int) + 1) = (k : Int) + 1 := i64w _ (by omega)
  simp only [resR] at h4
  generalize rec (k + 1) c.on = q at h4 h5 ⊢
  obtain ⟨d, x⟩ := q
  simp only at h4 h5 ⊢
  generalize hop : btw c.next = op at h5 hje ⊢
  generalize over op l x = ov at h5 ⊢
  generalize c.on = c' at h3 h4
  have hkd' : c.next.kind = 3 ∨ ¬ c.next.kind = 3 ∧ c.next.kind = 1 := by
    rcases hkd with h | h
    · exact .inl h
    · exact .inr ⟨by rw [h]; decide, h⟩
  by_cases hk4 : k = 4
  · subst hk4
    have e2 : decide (4 ≠ 4) = false := rfl
    have e1 : True := trivial
    rw [e2]
    simp [Cu.ref, cR, Tk.w, he] at h1 h2 h3 h4 h5
    rcases hkd' with hk3 | ⟨hk3, hk1⟩
    · simp -implicitDefEqProofs [rlS, Cu.cells, bodyOf, loopsOf, hv, Tryz.f42, he, h1, h2, h3, h4, h5, hk3, hjl, hjl', hje, w, e1]
    · simp -implicitDefEqProofs [rlS, Cu.cells, bodyOf, loopsOf, hv, Tryz.f42, he, h1, h2, h3, h4, h5, hk3, hk1, hjl, hjl', hje, w, e1]
  · have e1 : ((k : Int) != 4) = true := by simp; omega
    have e2 : decide (k ≠ 4) = true := by simp [hk4]
    rw [e2]
    simp [Cu.ref, cR, Tk.w, he] at h1 h2 h3 h4 h5
    rcases hkd' with hk3 | ⟨hk3, hk1⟩
    · simp -implicitDefEqProofs [rlS, Cu.cells, bodyOf, loopsOf, hv, Tryz.f42, he, h1, h2, h3, h4, h5, hk3, hjl, hjl', hje, w, e1]
    · simp -implicitDefEqProofs [rlS, Cu.cells, bodyOf, loopsOf, hv, Tryz.f42, he, h1, h2, h3, h4, h5, hk3, hk1, hjl, hjl', hje, w, e1]
theorem rl_loop {k : Nat} (k1 : 1 ≤ k) (k8 : k ≤ 7) : ∀ (m : Nat) (c : Cu) (l : List Tm), c.Ok → c.r.length < m → c.r.length < n + 1 → l.length + 2 * c.r.length < 300000 → Evt fun K => ∀ gl ro N S, m + 1 ≤ N → S.hav rlK = rlS k c l true gl ro → ∃ b,
    loopA (evC Tryz.prog cf 42 (ev K) K (bodyOf Tryz.f42 0)) rlK [] N S = some (.exit 0, rlS k (lpP rec k m c l).1 (lpP rec k m c l).2 b gl ro)
  | 0, c, l, _, h, _, _ => by omega
  | m + 1, c, l, hk, hm, hn, hl => by
    rw [lpP]
    by_cases he : c.e = 0
    · by_cases hb : btw c.next ≠ 0 ∧ levelI (btw c.next) = k
      · rw [if_pos ⟨he, hb⟩]
        have hy := rl_yes hfine hrec hk hn k1 k8 ⟨he, hb⟩ l hl
        obtain ⟨_, hr⟩ := Cu.next_real (c := c) (.inl (btw_real hb.1))
        obtain ⟨f1, f2⟩ := hfine (k + 1) c.on
        have fr := f1.2
        by_cases h4 : k = 4
        · rw [if_pos h4]
          rw [show decide (k ≠ 4) = false by simp [h4]] at hy
          refine hy.imp fun K q1 gl ro N S hN hS => ⟨false, ?_⟩
          obtain ⟨N, rfl⟩ : ∃ x, N = x + 2 := ⟨N - 2, by omega⟩
          have r1 := q1 K gl ro
          rw [← hS] at r1
          obtain ⟨S', hS', e⟩ := loop_on r1
          rw [e, rl_out (ev K) K k _ _ false (.inl rfl) gl ro N S' hS']
        · rw [if_neg h4]
          rw [show decide (k ≠ 4) = true by simp [h4]] at hy
          have ih := rl_loop k1 k8 m (rec (k + 1) c.on).1 (over (btw c.next) l (rec (k + 1) c.on).2) (f1.1 hk.on) (by omega) (by omega) (by rw [over_len]; omega)
          refine (hy.and ih).imp fun K ⟨q1, q2⟩ gl ro N S hN hS => ?_
          obtain ⟨N, rfl⟩ : ∃ x, N = x + 1 := ⟨N - 1, by omega⟩
          have r1 := q1 K gl ro
          rw [← hS] at r1
          obtain ⟨S', hS', e⟩ := loop_on r1
          rw [e]
          exact q2 gl ro N S' (by omega) hS'
      · rw [if_neg (fun h => hb h.2)]
        refine (rl_no hk he k1 (by omega) hb l).imp fun K q1 gl ro N S hN hS => ⟨false, ?_⟩
        obtain ⟨N, rfl⟩ : ∃ x, N = x + 2 := ⟨N - 2, by omega⟩
        have r1 := q1 K gl ro
        rw [← hS] at r1
        obtain ⟨S', hS', e⟩ := loop_on r1
        rw [e, rl_out (ev K) K k _ _ false (.inl rfl) gl ro N S' hS']
    · rw [if_neg (fun h => he h.1)]
      refine (Evt.ge 0).imp fun K _ gl ro N S hN hS => ⟨true, ?_⟩
      obtain ⟨N, rfl⟩ : ∃ x, N = x + 1 := ⟨N - 1, by omega⟩
      rw [rl_out (ev K) K k _ _ true (.inr he) gl ro N S hS]
end
end Go.Proofs.YtckonoejmjblfaaGreat.Ev

/- Layer 6: a level's expressions, as the document reads them. -/
set_option linter.unusedVariables false
set_option linter.unusedSimpArgs false
set_option maxRecDepth 100000
set_option maxHeartbeats 4000000
namespace Go.Proofs.YtckonoejmjblfaaGreat.Ev
open Go Go.RowKit

section
variable {rec : Nat → Cu → Cu × List Tm} (hfine : ∀ k c, Fine (rec k c) c) {n : Nat} (hrec : ∀ d : Cu, d.Ok → d.r.length < n → ∀ k : Nat, 1 ≤ k → k ≤ 8 → Gives 42 [d.ref, I k] (resR (rec k d)))
include hfine hrec -- 42
theorem rLv_ev (hN : n < 100000) : ∀ j, j ≤ 7 → ∀ c : Cu, c.Ok → c.r.length < n + 1 → Gives 42 [c.ref, I (8 - j : Nat)] (resR (lvP rec (n + 1) j c)) := by
  intro j
  induction j with
  | zero =>
    intro _ c hk hn
    unfold lvP
    by_cases he : c.e = 0
    · rw [if_neg (by simp [he])]
      refine .intro Tryz.func42 (by kernel_rfl) ((rAtom_ev hfine hrec hk he hn hN).imp fun k h1 ro gl => ?_)
      generalize atomP rec c = q at h1 ⊢
      obtain ⟨d, x⟩ := q
      simp only [resR] at h1 ⊢
      simp [Cu.ref, cR, he] at h1
      simp -implicitDefEqProofs [Tryz.f42, Cu.ref, cR, he, h1]
    · rw [if_pos he]
      refine .intro Tryz.func42 (by kernel_rfl) (.of fun k ro gl => ?_)
      simp -implicitDefEqProofs [Tryz.f42, Cu.ref, cR, resR, he]
  | succ j ih =>
    intro hj c hk hn
    have ih := ih (by omega) c hk hn
    unfold lvP
    by_cases he : c.e = 0
    rotate_left
    · rw [if_pos he]
      refine .intro Tryz.func42 (by kernel_rfl) (.of fun k ro gl => ?_)
      simp -implicitDefEqProofs [Tryz.f42, Cu.ref, cR, resR, he]
    · rw [if_neg (by simp [he])]
      have hkk : 8 - (j + 1) = 7 - j := by omega
      have hk8 : 8 - j = 7 - j + 1 := by omega
      rw [hkk]
      rw [hk8] at ih
      by_cases h3 : 7 - j = 3 ∧ c.is 1 bNot = true
      · rw [if_pos h3, h3.1]
        obtain ⟨_, hr⟩ := Cu.is_real h3.2 (by simp)
        obtain ⟨f1, f2⟩ := hfine 3 c.on
        have hov := rOver_ev 12 (rec 3 c.on).2 [] (by simp only [List.length_nil]; omega)
        refine .intro Tryz.func42 (by kernel_rfl) (((rIs_c (c := c) 1 bNot).and ((rOn_c hk).and ((hrec c.on hk.on (by omega) 3 (by omega) (by omega)).and hov))).imp fun k ⟨h1, h2, h4, h5⟩ ro gl => ?_)
        rw [h3.2] at h1
        simp only [resR] at h4 h5 ⊢
        generalize rec 3 c.on = q at h4 h5 ⊢
        obtain ⟨d, x⟩ := q
        simp only at h4 h5 ⊢
        generalize over 12 x [] = ov at h5 ⊢
        generalize c.on = c' at h2 h4
        simp [Cu.ref, cR, he] at h1 h2 h4 h5
        simp -implicitDefEqProofs [Tryz.f42, Cu.ref, cR, he, h1, h2, h4, h5]
      · rw [if_neg h3]
        by_cases h7 : 7 - j = 7 ∧ c.is 3 [45] = true
        · rw [if_pos h7, h7.1]
          obtain ⟨_, hr⟩ := Cu.is_real h7.2 (by simp)
          obtain ⟨f1, f2⟩ := hfine 7 c.on
          have hov := rOver_ev 3 (rec 7 c.on).2 [] (by simp only [List.length_nil]; omega)
          refine .intro Tryz.func42 (by kernel_rfl) (((rIs_c (c := c) 3 [45]).and ((rOn_c hk).and ((hrec c.on hk.on (by omega) 7 (by omega) (by omega)).and hov))).imp fun k ⟨h1, h2, h4, h5⟩ ro gl => ?_)
          rw [h7.2] at h1
          simp only [resR] at h4 h5 ⊢
          generalize rec 7 c.on = q at h4 h5 ⊢
          obtain ⟨d, x⟩ := q
          simp only at h4 h5 ⊢
          generalize over 3 x [] = ov at h5 ⊢
          generalize c.on = c' at h2 h4
          simp [Cu.ref, cR, he] at h1 h2 h4 h5
          simp -implicitDefEqProofs [Tryz.f42, Cu.ref, cR, he, h1, h2, h4, h5]
        · rw [if_neg h7]
          obtain ⟨f1, f2⟩ := lvP_fine hfine (n + 1) j c
          have flen := f1.2
          have hlp := rl_loop hfine hrec (k := 7 - j) (by omega) (by omega) (n + 1) (lvP rec (n + 1) j c).1 (lvP rec (n + 1) j c).2 (f1.1 hk) (by omega) (by omega) (by omega)
          refine .intro Tryz.func42 (by kernel_rfl) ((((rIs_c (c := c) 1 bNot).and (rIs_c (c := c) 3 [45])).and (ih.and ((Signs_ev (7 - j) (by omega) (by omega)).and (hlp.and (Evt.ge (n + 3)))))).imp fun K ⟨⟨h1, h2⟩, h4, h5, h6, hK⟩ ro gl => ?_)
          simp only [resR] at h4 ⊢
          generalize lvP rec (n + 1) j c = q at h4 h6 ⊢
          obtain ⟨d, x⟩ := q
          simp only at h4 h6 ⊢
          generalize hkg : 7 - j = k at h3 h7 h4 h5 h6 ⊢
          have hk1 : 1 ≤ k := by omega
          have hk7 : k ≤ 7 := by omega
          have tail : ∀ S : St, S.hav rlK = rlS k d x true gl gl.length → ∃ b, loopC Tryz.prog cf 42 (ev K) K (bodyOf Tryz.f42 0) S = some (.exit 0, rlS k (lpP rec k (n + 1) d x).1 (lpP rec k (n + 1) d x).2 b gl gl.length) := fun S hS => h6 gl gl.length K S (by omega) hS
          have tail : ∀ S : St, S.hav rlK = rlS k d x true gl gl.length → ∃ b : Bool, True ∧ loopC Tryz.prog cf 42 (ev K) K (bodyOf Tryz.f42 0) S = some (.exit 0, rlS k (lpP rec k (n + 1) d x).1 (lpP rec k (n + 1) d x).2 b gl gl.length) := fun S hS => by
            obtain ⟨b, hb⟩ := tail S hS
            exact ⟨b, trivial, hb⟩
          generalize lpP rec k (n + 1) d x = r at tail ⊢
          obtain ⟨d', x'⟩ := r
          simp only at tail ⊢
          have w : IntKind.i64.wrap ((k : Int) + 1) = (k : Int) + 1 := i64w _ (by omega)
          have k8 : ¬ (k : Int) = 8 := by omega
          by_cases e3 : k = 3
          · subst e3
            have hn3 : c.is 1 bNot = false := by
              cases hh : c.is 1 bNot with
              | false => rfl
              | true => exact absurd ⟨rfl, hh⟩ h3
            rw [hn3] at h1
            simp [Cu.ref, cR, he] at h1 h2 h4 h5
            simp -implicitDefEqProofs [Tryz.f42, Cu.ref, cR, he, h1, h4, h5]
            refine bind_ex (tail _ ?_) fun b _ => ?_
            · simp [rlS, Cu.cells]
            · simp [rlS, Cu.cells]
          · by_cases e7 : k = 7
            · subst e7
              have hn7 : c.is 3 [45] = false := by
                cases hh : c.is 3 [45] with
                | false => rfl
                | true => exact absurd ⟨rfl, hh⟩ h7
              rw [hn7] at h2
              simp [Cu.ref, cR, he] at h1 h2 h4 h5
              simp -implicitDefEqProofs [Tryz.f42, Cu.ref, cR, he, h2, h4, h5]
              refine bind_ex (tail _ ?_) fun b _ => ?_
              · simp [rlS, Cu.cells]
              · simp [rlS, Cu.cells]
            · have e3' : ¬ (k : Int) = 3 := by omega
              have e7' : ¬ (k : Int) = 7 := by omega
              simp [Cu.ref, cR, he] at h1 h2 h4 h5
              simp -implicitDefEqProofs [Tryz.f42, Cu.ref, cR, he, h4, h5, w, k8, e3', e7']
              refine bind_ex (tail _ ?_) fun b _ => ?_
              · simp [rlS, Cu.cells]
              · simp [rlS, Cu.cells]
end
/-- The document's answer of a level. -/
theorem rLevel1_ev : ∀ (n : Nat), n < 100000 → ∀ c : Cu, c.Ok → c.r.length < n → ∀ k : Nat, 1 ≤ k → k ≤ 8 → Gives 42 [c.ref, I k] (resR (lvN n k c))
  | 0, _, c, _, h, _, _, _ => by omega
  | n + 1, hN, c, hk, hn, k, k1, k8 => by
    have := rLv_ev (lvN_fine n) (n := n) (fun d hd hdn k k1 k8 => rLevel1_ev n (by omega) d hd hdn k k1 k8) (by omega) (8 - k) (by omega) c hk hn
    rw [show 8 - (8 - k) = k by omega] at this
    exact this
end Go.Proofs.YtckonoejmjblfaaGreat.Ev

/- Layer 6: Read, the document's and the program's. -/
set_option linter.unusedVariables false
set_option linter.unusedSimpArgs false
set_option maxRecDepth 100000
set_option maxHeartbeats 4000000
namespace Go.Proofs.YtckonoejmjblfaaGreat.Ev
open Go Go.RowKit

theorem Depth_ev (l : List Tm) (hl : l.length < 1000000) : Gives 61 [L (l.map Tm.c)] (V.int .i64 (foldD depM l)) := by
  refine .intro Tryz.func61 (by kernel_rfl) ((fold_ev 108 depM Depth1_ev (by kernel_rfl) (by kernel_rfl) l hl).imp fun k h ro gl => ?_)
  simp -implicitDefEqProofs [Tryz.f61, h]
theorem rRead_ev {c : Cu} (hk : c.Ok) (hn : c.r.length < 90000) : Gives 23 [c.ref] (resR (readP c)) := by
  have hlv := rLevel1_ev (c.r.length + 1) (by omega) c hk (by omega) 1 (by omega) (by omega)
  obtain ⟨g1, g2⟩ := lvN_fine (c.r.length + 1) 1 c
  have hd := lvN_sd (c.r.length + 1) 1 c (by omega)
  unfold readP
  simp only
  generalize lvN (c.r.length + 1) 1 c = q at hlv hd g1 g2 ⊢
  obtain ⟨d, x⟩ := q
  simp only at hlv hd g1 g2 ⊢
  by_cases he : d.e = 0
  · obtain ⟨t, t1, t2, _⟩ := hd he
    simp only at t2
    have tl := t.dep_le
    rw [← t2] at tl
    rw [if_pos he]
    by_cases h40 : 40 < x.length
    · rw [if_pos h40]
      have j40 : (40 : Int) < x.length := by omega
      have hz : (d.fail 8).e ≠ 0 := d.fail_e (by decide)
      rw [if_neg hz]
      refine .intro Tryz.func23 (by kernel_rfl) ((hlv.and (rFail_c (c := d) 8)).imp fun k ⟨h1, h2⟩ ro gl => ?_)
      simp only [resR] at h1 ⊢
      generalize d.fail 8 = d' at hz h2 ⊢
      simp [Cu.ref, cR, he] at h1 h2
      simp -implicitDefEqProofs [Tryz.f23, Cu.ref, cR, he, h1, h2, j40, hz]
    · rw [if_neg h40, depV_eq t1 t2]
      have j40 : ¬ (40 : Int) < x.length := by omega
      have hdp := rDepth_ev t t1 x 0 (t2 ▸ Tr.At.root t) (by omega)
      by_cases h12 : 12 < t.dep
      · rw [if_pos h12]
        have j12 : (12 : Int) < t.dep := by omega
        have hz : (d.fail 6).e ≠ 0 := d.fail_e (by decide)
        rw [if_neg hz]
        refine .intro Tryz.func23 (by kernel_rfl) ((hlv.and ((rFail_c (c := d) 6).and hdp)).imp fun k ⟨h1, h2, h3⟩ ro gl => ?_)
        simp only [resR] at h1 ⊢
        generalize d.fail 6 = d' at hz h2 ⊢
        simp [Cu.ref, cR, he] at h1 h2 h3
        simp -implicitDefEqProofs [Tryz.f23, Cu.ref, cR, he, h1, h2, h3, j40, j12, hz]
      · rw [if_neg h12, if_pos he]
        have j12 : ¬ (12 : Int) < t.dep := by omega
        refine .intro Tryz.func23 (by kernel_rfl) ((hlv.and hdp).imp fun k ⟨h1, h3⟩ ro gl => ?_)
        simp only [resR] at h1 ⊢
        simp [Cu.ref, cR, he] at h1 h3
        simp -implicitDefEqProofs [Tryz.f23, Cu.ref, cR, he, h1, h3, j40, j12]
  · rw [if_neg he, if_neg he]
    refine .intro Tryz.func23 (by kernel_rfl) (hlv.imp fun k h1 ro gl => ?_)
    simp only [resR] at h1 ⊢
    simp [Cu.ref, cR, he] at h1
    simp -implicitDefEqProofs [Tryz.f23, Cu.ref, cR, he, h1]
theorem Read_ev {c : Cu} (hk : c.Ok) (hn : c.r.length < 90000) : DoesU 35 (fun o => [.w (.glo o 0)]) c.w (.c (L ((readP c).2.map Tm.c))) (readP c).1.w := by
  have hlv := from_ev (c.r.length + 1) (by omega) c hk (by omega) 1 (by omega) (by omega)
  obtain ⟨g1, g2⟩ := lvN_fine (c.r.length + 1) 1 c
  have hd := lvN_sd (c.r.length + 1) 1 c (by omega)
  unfold readP
  simp only
  generalize lvN (c.r.length + 1) 1 c = q at hlv hd g1 g2 ⊢
  obtain ⟨d, x⟩ := q
  simp only at hlv hd g1 g2 ⊢
  have dk := g1.1 hk
  by_cases he : d.e = 0
  · obtain ⟨t, t1, t2, _⟩ := hd he
    simp only at t2
    rw [if_pos he]
    by_cases h40 : 40 < x.length
    · rw [if_pos h40]
      have j40 : (40 : Int) < x.length := by omega
      have hz : (d.fail 8).e ≠ 0 := d.fail_e (by decide)
      rw [if_neg hz]
      refine .intro Tryz.func35 (by kernel_rfl) ((hlv.and ((fail_c dk 8).and (good_c (c := d.fail 8)))).imp fun k ⟨h1, h2, h3⟩ gl o ro hg hro => ?_)
      have h1 := h1 gl o ro hg hro
      have h2 := h2 _ o ro (get_set hg _) hro
      have h3 := fun ro => h3 _ o ro (get_set hg _)
      simp only [List.set_set] at h2
      simp [hz] at h1 h2 h3
      simp -implicitDefEqProofs [Tryz.f35, h1, h2, h3, j40]
    · rw [if_neg h40, depV_eq t1 t2]
      have j40 : ¬ (40 : Int) < x.length := by omega
      have hdp := Depth_ev x (by omega)
      rw [t2, foldD_dep t1 (by rw [← t2]; omega), ← t2] at hdp
      by_cases h12 : 12 < t.dep
      · rw [if_pos h12]
        have j12 : (12 : Int) < t.dep := by omega
        have hz : (d.fail 6).e ≠ 0 := d.fail_e (by decide)
        rw [if_neg hz]
        refine .intro Tryz.func35 (by kernel_rfl) ((hlv.and ((fail_c dk 6).and ((good_c (c := d.fail 6)).and ((good_c (c := d)).and hdp)))).imp fun k ⟨h1, h2, h3, h4, h5⟩ gl o ro hg hro => ?_)
        have h1 := h1 gl o ro hg hro
        have h2 := h2 _ o ro (get_set hg _) hro
        have h3 := fun ro => h3 _ o ro (get_set hg _)
        have h4 := fun ro => h4 _ o ro (get_set hg _)
        simp only [List.set_set] at h2
        simp [hz, he] at h1 h2 h3 h4 h5
        simp -implicitDefEqProofs [Tryz.f35, h1, h2, h3, h4, h5, j40, j12]
      · rw [if_neg h12, if_pos he]
        have j12 : ¬ (12 : Int) < t.dep := by omega
        refine .intro Tryz.func35 (by kernel_rfl) ((hlv.and ((good_c (c := d)).and hdp)).imp fun k ⟨h1, h4, h5⟩ gl o ro hg hro => ?_)
        have h1 := h1 gl o ro hg hro
        have h4 := fun ro => h4 _ o ro (get_set hg _)
        simp [he] at h1 h4 h5
        simp -implicitDefEqProofs [Tryz.f35, h1, h4, h5, j40, j12]
  · rw [if_neg he, if_neg he]
    have hs : d.fail 8 = d := by unfold Cu.fail; rw [if_neg (fun h => he h.1)]
    have hf := fail_c dk 8
    rw [hs] at hf
    by_cases h40 : (40 : Int) < x.length
    · refine .intro Tryz.func35 (by kernel_rfl) ((hlv.and (hf.and (good_c (c := d)))).imp fun k ⟨h1, h2, h3⟩ gl o ro hg hro => ?_)
      have h1 := h1 gl o ro hg hro
      have h2 := h2 _ o ro (get_set hg _) hro
      have h3 := fun ro => h3 _ o ro (get_set hg _)
      simp only [List.set_set] at h2
      simp [he] at h1 h2 h3
      simp -implicitDefEqProofs [Tryz.f35, h1, h2, h3, h40]
    · refine .intro Tryz.func35 (by kernel_rfl) ((hlv.and (good_c (c := d))).imp fun k ⟨h1, h3⟩ gl o ro hg hro => ?_)
      have h1 := h1 gl o ro hg hro
      have h3 := fun ro => h3 _ o ro (get_set hg _)
      simp [he] at h1 h3
      simp -implicitDefEqProofs [Tryz.f35, h1, h3, h40]
end Go.Proofs.YtckonoejmjblfaaGreat.Ev
