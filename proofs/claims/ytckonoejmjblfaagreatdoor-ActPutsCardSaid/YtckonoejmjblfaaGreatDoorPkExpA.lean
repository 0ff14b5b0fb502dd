/- Layer 6: which expression is next, level by level: the plain words. -/
import Derived.Test.YtckonoejmjblfaaGreatDoorPkTre
import Derived.Test.YtckonoejmjblfaaGreatDoorPkCur
import Derived.Test.YtckonoejmjblfaaGreatDoorPkTrmB
import Derived.Test.YtckonoejmjblfaaGreatDoorPkLib
set_option linter.unusedVariables false
set_option linter.unusedSimpArgs false
namespace Go.Proofs.YtckonoejmjblfaaGreatDoor.Ev
open Go Go.RowKit

def over (op : Int) (a b : List Tm) : List Tm := ⟨op, 0, []⟩ :: (a ++ b)
/-- The term whose sign is next; 0: none is. -/
def btw (t : Tk) : Int := if t.kind = 3 ∨ t.kind = 1 then ((([4, 5, 6, 7, 8, 9, 10, 11, 12, 13, 14, 15, 16, 17, 18, 19, 20] : List Int).find? fun op => decide (signB op ≠ []) && decide (signB op = t.text))).getD 0 else 0
abbrev bNot : List UInt8 := [110, 111, 116]
abbrev bTrue : List UInt8 := [116, 114, 117, 101]
abbrev bFalse : List UInt8 := [102, 97, 108, 115, 101]
abbrev bIn : List UInt8 := [105, 110]
abbrev bMin : List UInt8 := [109, 105, 110]
abbrev bMax : List UInt8 := [109, 97, 120]
def twoP (rec : Nat → Cu → Cu × List Tm) (op : Int) (c : Cu) : Cu × List Tm :=
  let a := rec 1 (c.want 3 [40])
  let b := rec 1 (a.1.want 3 [44])
  (b.1.want 3 [41], over op a.2 b.2)
def atomP (rec : Nat → Cu → Cu × List Tm) (c : Cu) : Cu × List Tm :=
  if c.next.kind = 2 then ((c.number 1000000).1, [⟨1, (c.number 1000000).2, []⟩])
  else if c.is 3 [40] then ((rec 1 c.on).1.want 3 [41], (rec 1 c.on).2)
  else if c.next.kind ≠ 1 then (c.fail 2, [])
  else if c.next.text = bTrue then (c.on, [⟨9, 0, []⟩])
  else if c.next.text = bFalse then (c.on, [⟨10, 0, []⟩])
  else if c.next.text = bIn then ((c.on.want 3 [40]).name.1.want 3 [41], [⟨11, 0, (c.on.want 3 [40]).name.2⟩])
  else if c.next.text = bMin then twoP rec 7 c.on
  else if c.next.text = bMax then twoP rec 8 c.on
  else if isName c.next.text then (c.on, [⟨2, 0, c.next.text⟩])
  else (c.fail 2, [])
def lpP (rec : Nat → Cu → Cu × List Tm) (k : Nat) : Nat → Cu → List Tm → Cu × List Tm
  | 0, c, l => (c, l)
  | n + 1, c, l =>
    if c.e = 0 ∧ btw c.next ≠ 0 ∧ levelI (btw c.next) = k then
      if k = 4 then ((rec (k + 1) c.on).1, over (btw c.next) l (rec (k + 1) c.on).2)
      else lpP rec k n (rec (k + 1) c.on).1 (over (btw c.next) l (rec (k + 1) c.on).2)
    else (c, l)
def lvP (rec : Nat → Cu → Cu × List Tm) (n : Nat) : Nat → Cu → Cu × List Tm
  | 0, c => if c.e ≠ 0 then (c, []) else atomP rec c
  | j + 1, c =>
    if c.e ≠ 0 then (c, [])
    else if 7 - j = 3 ∧ c.is 1 bNot then ((rec 3 c.on).1, over 12 (rec 3 c.on).2 [])
    else if 7 - j = 7 ∧ c.is 3 [45] then ((rec 7 c.on).1, over 3 (rec 7 c.on).2 [])
    else lpP rec (7 - j) n (lvP rec n j c).1 (lvP rec n j c).2
/-- The expression of a level that is next, if fewer than n tokens are left. -/
def lvN : Nat → Nat → Cu → Cu × List Tm
  | 0, _, c => (c, [])
  | n + 1, k, c => lvP (lvN n) (n + 1) (8 - k) c

theorem Cu.on_r (c : Cu) : c.on.r = c.r.tail := by unfold Cu.on; split <;> simp_all
theorem Cu.fail_r (c : Cu) (e : Int) : (c.fail e).r = c.r := by unfold Cu.fail; split <;> rfl
theorem was_text (p : List Tk) : (was p).text = [] := by unfold was; split <;> rfl
theorem was_kind (p : List Tk) : (was p).kind = 0 := by unfold was; split <;> rfl
theorem Cu.next_real {c : Cu} (h : c.next.text ≠ [] ∨ c.next.kind ≠ 0) : c.e = 0 ∧ c.on.r.length + 1 = c.r.length := by
  unfold Cu.next at h
  split at h
  · rename_i he
    refine ⟨he, ?_⟩
    rw [Cu.on_r]
    cases hr : c.r with
    | nil => rw [hr] at h; simp [nx, was_text, was_kind] at h
    | cons t r => simp
  · simp [tk0] at h
theorem Cu.is_real {c : Cu} {k : Int} {t : List UInt8} (h : c.is k t = true) (ht : t ≠ []) : c.e = 0 ∧ c.on.r.length + 1 = c.r.length := by
  simp only [Cu.is, Bool.and_eq_true, decide_eq_true_eq] at h
  exact Cu.next_real (.inl (by rw [h.2.2]; exact ht))
/-- A cursor that has gone on from another one. -/
def Cu.Le (d c : Cu) : Prop := (c.Ok → d.Ok) ∧ d.r.length ≤ c.r.length
theorem Cu.Le.refl (c : Cu) : c.Le c := ⟨id, Nat.le_refl _⟩
theorem Cu.Le.trans {a b c : Cu} (h : a.Le b) (k : b.Le c) : a.Le c := ⟨fun x => h.1 (k.1 x), Nat.le_trans h.2 k.2⟩
theorem Cu.on_le (c : Cu) : c.on.Le c := ⟨Cu.Ok.on, by rw [Cu.on_r]; simp⟩
theorem Cu.fail_le (c : Cu) (e : Int) : (c.fail e).Le c := ⟨fun h => h.fail e, by rw [Cu.fail_r]; exact Nat.le_refl _⟩
theorem Cu.want_le (c : Cu) (k : Int) (t : List UInt8) : (c.want k t).Le c := by unfold Cu.want; split; exact c.on_le; exact c.fail_le 2
theorem Cu.name_le (c : Cu) : c.name.1.Le c := by unfold Cu.name; split; exact c.on_le; exact c.fail_le 2
theorem Cu.number_le (c : Cu) (m : Int) : (c.number m).1.Le c := by
  unfold Cu.number
  split
  · split
    · split
      · exact c.fail_le _
      · exact c.on_le
    · exact c.fail_le _
  · exact c.fail_le _
theorem Cu.number_len (c : Cu) (m : Int) : 1 + 2 * (c.number m).1.r.length ≤ 2 * c.r.length + 1 := by have := (c.number_le m).2; omega
/-- Bounds of what was read. -/
def Fine (x : Cu × List Tm) (c : Cu) : Prop := x.1.Le c ∧ x.2.length + 2 * x.1.r.length ≤ 2 * c.r.length + 1
theorem over_len (op : Int) (a b : List Tm) : (over op a b).length = a.length + b.length + 1 := by simp [over]
section
variable {rec : Nat → Cu → Cu × List Tm} (hrec : ∀ k c, Fine (rec k c) c)
include hrec
theorem twoP_fine (op : Int) (c : Cu) : (twoP rec op c).2.length + 2 * (twoP rec op c).1.r.length ≤ 2 * c.r.length + 3 ∧ (twoP rec op c).1.Le c := by
  obtain ⟨a1, a2⟩ := hrec 1 (c.want 3 [40])
  obtain ⟨b1, b2⟩ := hrec 1 ((rec 1 (c.want 3 [40])).1.want 3 [44])
  have w1 := (c.want_le 3 [40])
  have w2 := ((rec 1 (c.want 3 [40])).1.want_le 3 [44])
  have w3 := ((rec 1 ((rec 1 (c.want 3 [40])).1.want 3 [44])).1.want_le 3 [41])
  have e1 := w1.2
  have e2 := w2.2
  have e3 := w3.2
  simp only [twoP, over_len]
  exact ⟨by omega, w3.trans (b1.trans (w2.trans (a1.trans w1)))⟩
theorem atomP_fine {c : Cu} (he : c.e = 0) : Fine (atomP rec c) c := by
  have hfail : Fine (c.fail 2, []) c := ⟨c.fail_le 2, by rw [Cu.fail_r]; simp⟩
  unfold atomP
  split
  · exact ⟨c.number_le _, c.number_len _⟩
  · split
    · rename_i h
      obtain ⟨_, hr⟩ := Cu.is_real h (by simp)
      obtain ⟨a1, a2⟩ := hrec 1 c.on
      have w := ((rec 1 c.on).1.want_le 3 [41])
      have e := w.2
      exact ⟨w.trans (a1.trans c.on_le), by simp only; omega⟩
    · split
      · exact hfail
      · rename_i hk
        have hk : c.next.kind = 1 := by simpa using hk
        obtain ⟨_, hr⟩ := Cu.next_real (c := c) (.inr (by rw [hk]; simp))
        have one : ∀ t : Tm, Fine (c.on, [t]) c := fun t => ⟨c.on_le, by simp only [List.length_singleton]; omega⟩
        have two : ∀ op, Fine (twoP rec op c.on) c := fun op => by
          obtain ⟨t1, t2⟩ := twoP_fine hrec op c.on
          exact ⟨t2.trans c.on_le, by omega⟩
        split
        · exact one _
        · split
          · exact one _
          · split
            · have w1 := c.on.want_le 3 [40]
              have w2 := (c.on.want 3 [40]).name_le
              have w3 := ((c.on.want 3 [40]).name.1.want_le 3 [41])
              have e1 := w1.2
              have e2 := w2.2
              have e3 := w3.2
              exact ⟨w3.trans (w2.trans (w1.trans c.on_le)), by simp only [List.length_singleton]; omega⟩
            · split
              · exact two _
              · split
                · exact two _
                · split
                  · exact one _
                  · exact hfail
omit hrec in
theorem btw_real {c : Cu} (h : btw c.next ≠ 0) : c.next.text ≠ [] := by
  intro h0
  apply h
  unfold btw
  split
  · rw [h0]
    have : (([4, 5, 6, 7, 8, 9, 10, 11, 12, 13, 14, 15, 16, 17, 18, 19, 20] : List Int).find? fun op => decide (signB op ≠ []) && decide (signB op = [])) = none := by
      rw [List.find?_eq_none]
      intro x _
      by_cases hx : signB x = [] <;> simp [hx]
    rw [this]
    rfl
  · rfl
theorem lpP_fine (k : Nat) : ∀ (n : Nat) (c : Cu) (l : List Tm), (lpP rec k n c l).1.Le c ∧ (lpP rec k n c l).2.length + 2 * (lpP rec k n c l).1.r.length ≤ l.length + 2 * c.r.length
  | 0, c, l => ⟨.refl c, Nat.le_refl _⟩
  | n + 1, c, l => by
    unfold lpP
    split
    · rename_i h
      obtain ⟨_, hr⟩ := Cu.next_real (c := c) (.inl (btw_real h.2.1))
      obtain ⟨a1, a2⟩ := hrec (k + 1) c.on
      split
      · exact ⟨a1.trans c.on_le, by simp only [over_len]; omega⟩
      · obtain ⟨b1, b2⟩ := lpP_fine k n (rec (k + 1) c.on).1 (over (btw c.next) l (rec (k + 1) c.on).2)
        rw [over_len] at b2
        exact ⟨b1.trans (a1.trans c.on_le), by omega⟩
    · exact ⟨.refl c, Nat.le_refl _⟩
theorem lpP_fuel (k : Nat) : ∀ (n m : Nat) (c : Cu) (l : List Tm), c.r.length < n → c.r.length < m → lpP rec k n c l = lpP rec k m c l
  | 0, m, c, l, h, _ => by omega
  | n + 1, 0, c, l, _, h => by omega
  | n + 1, m + 1, c, l, h1, h2 => by
    simp only [lpP]
    split
    · rename_i h
      obtain ⟨_, hr⟩ := Cu.next_real (c := c) (.inl (btw_real h.2.1))
      obtain ⟨a1, a2⟩ := hrec (k + 1) c.on
      have := a1.2
      split
      · rfl
      · exact lpP_fuel k n m _ _ (by omega) (by omega)
    · rfl
theorem lvP_fine (n : Nat) : ∀ (j : Nat) (c : Cu), Fine (lvP rec n j c) c
  | 0, c => by
    unfold lvP
    split
    · exact ⟨.refl c, by simp⟩
    · rename_i h; exact atomP_fine hrec (by simpa using h)
  | j + 1, c => by
    unfold lvP
    split
    · exact ⟨.refl c, by simp⟩
    · split
      · rename_i h
        obtain ⟨_, hr⟩ := Cu.is_real h.2 (by simp)
        obtain ⟨a1, a2⟩ := hrec 3 c.on
        exact ⟨a1.trans c.on_le, by simp only [over_len, List.length_nil]; omega⟩
      · split
        · rename_i h
          obtain ⟨_, hr⟩ := Cu.is_real h.2 (by simp)
          obtain ⟨a1, a2⟩ := hrec 7 c.on
          exact ⟨a1.trans c.on_le, by simp only [over_len, List.length_nil]; omega⟩
        · obtain ⟨a1, a2⟩ := lvP_fine n j c
          obtain ⟨b1, b2⟩ := lpP_fine hrec (7 - j) n (lvP rec n j c).1 (lvP rec n j c).2
          exact ⟨b1.trans a1, by omega⟩
/-- From a level down: what is between. -/
def hP (rec : Nat → Cu → Cu × List Tm) (n least : Nat) : Nat → Cu → List Tm → Cu × List Tm
  | 0, c, l => (c, l)
  | q + 1, c, l => if q + 1 < least then (c, l) else hP rec n least q (lpP rec (q + 1) n c l).1 (lpP rec (q + 1) n c l).2
omit hrec in
theorem hP_low {n least q : Nat} (h : q < least) (c : Cu) (l : List Tm) : hP rec n least q c l = (c, l) := by
  cases q with
  | zero => rfl
  | succ q => rw [hP, if_pos h]
omit hrec in
theorem hP_snoc {n k : Nat} (hk : 0 < k) : ∀ (q : Nat) (c : Cu) (l : List Tm), k ≤ q → hP rec n k q c l = lpP rec k n (hP rec n (k + 1) q c l).1 (hP rec n (k + 1) q c l).2
  | 0, c, l, h => by omega
  | q + 1, c, l, h => by
    by_cases hq : k = q + 1
    · subst hq
      rw [hP, if_neg (by omega), hP_low (q := q) (by omega), hP_low (q := q + 1) (by omega)]
    · rw [hP, if_neg (by omega), hP_snoc hk q _ _ (by omega)]
      conv => rhs; rw [hP, if_neg (by omega)]
omit hrec in
/-- What begins an expression of a level, and what comes behind it. -/
theorem lvP_eq (n : Nat) (c : Cu) (he : c.e = 0) : ∀ j, j ≤ 7 → lvP rec n j c =
    (if 8 - j ≤ 3 ∧ c.is 1 bNot then hP rec n (8 - j) 2 (rec 3 c.on).1 (over 12 (rec 3 c.on).2 [])
     else if 8 - j ≤ 7 ∧ c.is 3 [45] then hP rec n (8 - j) 6 (rec 7 c.on).1 (over 3 (rec 7 c.on).2 [])
     else hP rec n (8 - j) 7 (atomP rec c).1 (atomP rec c).2)
  | 0, _ => by
    rw [lvP, if_neg (by simp [he]), if_neg (by omega), if_neg (by omega), hP_low (by omega)]
  | j + 1, hj => by
    have ih := lvP_eq n c he j (by omega)
    rw [lvP, if_neg (by simp [he])]
    by_cases h3 : 7 - j = 3 ∧ c.is 1 bNot
    · rw [if_pos h3, if_pos ⟨by omega, h3.2⟩, hP_low (by omega)]
    · rw [if_neg h3]
      by_cases h7 : 7 - j = 7 ∧ c.is 3 [45]
      · rw [if_pos h7, if_neg (by omega), if_pos ⟨by omega, h7.2⟩, hP_low (by omega)]
      · rw [if_neg h7, ih]
        have e : 8 - (j + 1) = 7 - j := by omega
        have e' : 8 - j = 7 - j + 1 := by omega
        rw [e, e']
        by_cases hn : c.is 1 bNot = true
        · by_cases hl : 7 - j ≤ 2
          · rw [if_pos ⟨by omega, hn⟩, if_pos ⟨by omega, hn⟩, ← hP_snoc (by omega) 2 _ _ hl]
          · have : ¬ 7 - j = 3 := fun h => h3 ⟨h, hn⟩
            have hm : ¬ c.is 3 [45] = true := by
              intro h
              simp only [Cu.is, Bool.and_eq_true, decide_eq_true_eq] at hn h
              rw [hn.2.1] at h
              exact absurd h.2.1 (by decide)
            rw [if_neg (by omega), if_neg (fun h => hm h.2), if_neg (by omega), if_neg (fun h => hm h.2), ← hP_snoc (by omega) 7 _ _ (by omega)]
        · have n1 : ∀ p : Prop, ¬ (p ∧ c.is 1 bNot = true) := fun p h => hn h.2
          by_cases hm : c.is 3 [45] = true
          · have : ¬ 7 - j = 7 := fun h => h7 ⟨h, hm⟩
            rw [if_neg (n1 _), if_pos ⟨by omega, hm⟩, if_neg (n1 _), if_pos ⟨by omega, hm⟩, ← hP_snoc (by omega) 6 _ _ (by omega)]
          · have n2 : ∀ p : Prop, ¬ (p ∧ c.is 3 [45] = true) := fun p h => hm h.2
            rw [if_neg (n1 _), if_neg (n2 _), if_neg (n1 _), if_neg (n2 _), ← hP_snoc (by omega) 7 _ _ (by omega)]
omit hrec in
theorem hP_stop {n least : Nat} : ∀ (q : Nat) (c : Cu) (l : List Tm), (c.e = 0 → btw c.next ≠ 0 → levelI (btw c.next) < least ∨ (q : Int) < levelI (btw c.next)) → hP rec n least q c l = (c, l)
  | 0, c, l, h => rfl
  | q + 1, c, l, h => by
    rw [hP]
    split
    · rfl
    · rename_i hq
      have : lpP rec (q + 1) n c l = (c, l) := by
        cases n with
        | zero => rfl
        | succ n =>
          rw [lpP, if_neg]
          rintro ⟨h1, h2, h3⟩
          rcases h h1 h2 with h4 | h4
          · rw [h3] at h4; omega
          · rw [h3] at h4; omega
      rw [this]
      exact hP_stop q c l fun h1 h2 => by
        rcases h h1 h2 with h4 | h4
        · exact .inl h4
        · exact .inr (by omega)
theorem hP_step {n least : Nat} (hl : 0 < least) : ∀ (q : Nat) (c : Cu) (l : List Tm) (p : Nat), c.e = 0 → btw c.next ≠ 0 → levelI (btw c.next) = p → least ≤ p → p ≤ q → c.r.length < n →
    hP rec n least q c l = hP rec n least (if p = 4 then 3 else p) (rec (p + 1) c.on).1 (over (btw c.next) l (rec (p + 1) c.on).2)
  | 0, c, l, p, _, _, _, h1, h2, _ => by omega
  | q + 1, c, l, p, he, hb, hp, h1, h2, hn => by
    obtain ⟨m, rfl⟩ : ∃ m, n = m + 1 := ⟨n - 1, by omega⟩
    by_cases hq : p = q + 1
    · subst hq
      rw [hP, if_neg (by omega)]
      have hlp : lpP rec (q + 1) (m + 1) c l = if q + 1 = 4 then ((rec (q + 1 + 1) c.on).1, over (btw c.next) l (rec (q + 1 + 1) c.on).2) else lpP rec (q + 1) m (rec (q + 1 + 1) c.on).1 (over (btw c.next) l (rec (q + 1 + 1) c.on).2) := by
        rw [lpP, if_pos ⟨he, hb, by rw [hp]⟩]
      rw [hlp]
      by_cases h4 : q + 1 = 4
      · rw [if_pos h4, if_pos h4]
        have : q = 3 := by omega
        subst this
        rfl
      · rw [if_neg h4, if_neg h4]
        obtain ⟨_, hr⟩ := Cu.next_real (c := c) (.inl (btw_real hb))
        have := (hrec (q + 1 + 1) c.on).1.2
        rw [lpP_fuel hrec (q + 1) m (m + 1) _ _ (by omega) (by omega)]
        conv => rhs; rw [hP, if_neg (by omega)]
    · rw [hP, if_neg (by omega)]
      have : lpP rec (q + 1) (m + 1) c l = (c, l) := by
        rw [lpP, if_neg]
        rintro ⟨_, _, h3⟩
        rw [hp] at h3
        omega
      rw [this]
      exact hP_step hl q c l p he hb hp h1 (by omega) hn
end
theorem lvN_fine : ∀ (n k : Nat) (c : Cu), Fine (lvN n k c) c
  | 0, k, c => ⟨.refl c, by simp [lvN]⟩
  | n + 1, k, c => lvP_fine (lvN_fine n) (n + 1) (8 - k) c
/-- Which levels signs have. -/
theorem btw_level {t : Tk} (h : btw t ≠ 0) : levelI (btw t) = 1 ∨ levelI (btw t) = 2 ∨ levelI (btw t) = 4 ∨ levelI (btw t) = 5 ∨ levelI (btw t) = 6 := by
  unfold btw at h ⊢
  split at h
  · rename_i hk
    rw [if_pos hk]
    generalize hf : (([4, 5, 6, 7, 8, 9, 10, 11, 12, 13, 14, 15, 16, 17, 18, 19, 20] : List Int).find? fun op => decide (signB op ≠ []) && decide (signB op = t.text)) = o at h ⊢
    cases o with
    | none => simp at h
    | some x =>
      have hm := List.mem_of_find?_eq_some hf
      have hp := List.find?_some hf
      simp only [Bool.and_eq_true, decide_eq_true_eq] at hp
      simp only [Option.getD_some]
      simp only [List.mem_cons, List.not_mem_nil, or_false] at hm
      rcases hm with h | h | h | h | h | h | h | h | h | h | h | h | h | h | h | h | h <;> subst h <;> first | (exact absurd rfl hp.1) | (simp [levelI])
  · exact absurd rfl h
end Go.Proofs.YtckonoejmjblfaaGreatDoor.Ev

/- Layer 6: the document's signs and lists. -/
set_option linter.unusedVariables false
set_option linter.unusedSimpArgs false
set_option maxRecDepth 100000
set_option maxHeartbeats 4000000
namespace Go.Proofs.YtckonoejmjblfaaGreatDoor.Ev
open Go Go.RowKit

def opsI : Nat → List Int
  | 1 => [20]
  | 2 => [19]
  | 4 => [13, 14, 15, 16, 17, 18]
  | 5 => [4, 5]
  | 6 => [6]
  | _ => []
def signsB (k : Nat) : List (List UInt8) := (opsI k).map signB
theorem eight {k : Nat} (h1 : 1 ≤ k) (h2 : k ≤ 8) : k = 1 ∨ k = 2 ∨ k = 3 ∨ k = 4 ∨ k = 5 ∨ k = 6 ∨ k = 7 ∨ k = 8 := by omega
theorem Signs_ev (k : Nat) (h1 : 1 ≤ k) (h2 : k ≤ 8) : Gives 135 [I k] (.tup [L ((signsB k).map sD), L ((opsI k).map zD)]) := by
  refine .intro Tryz.func135 (by kernel_rfl) (.of fun n ro gl => ?_)
  rcases eight h1 h2 with h | h | h | h | h | h | h | h <;> subst h <;>
    simp -implicitDefEqProofs [Tryz.f135, signsB, opsI, signB]
abbrev allOps : List Int := [4, 5, 6, 7, 8, 9, 10, 11, 12, 13, 14, 15, 16, 17, 18, 19, 20]
theorem btw_sign {t : Tk} (h : btw t ≠ 0) : signB (btw t) = t.text ∧ signB (btw t) ≠ [] ∧ btw t ∈ allOps ∧ (t.kind = 3 ∨ t.kind = 1) := by
  unfold btw at h ⊢
  split at h
  · rename_i hk
    rw [if_pos hk]
    generalize hf : (allOps.find? fun op => decide (signB op ≠ []) && decide (signB op = t.text)) = o at h ⊢
    cases o with
    | none => simp at h
    | some x =>
      have hm := List.mem_of_find?_eq_some hf
      have hp := List.find?_some hf
      simp only [Bool.and_eq_true, decide_eq_true_eq] at hp
      exact ⟨hp.2, hp.1, hm, hk⟩
  · exact absurd rfl h
theorem allOps_cases {x : Int} (h : x ∈ allOps) : x = 4 ∨ x = 5 ∨ x = 6 ∨ x = 7 ∨ x = 8 ∨ x = 9 ∨ x = 10 ∨ x = 11 ∨ x = 12 ∨ x = 13 ∨ x = 14 ∨ x = 15 ∨ x = 16 ∨ x = 17 ∨ x = 18 ∨ x = 19 ∨ x = 20 := by
  simpa using h
theorem btw_of {t : Tk} {op : Int} (hm : op ∈ allOps) (h0 : signB op ≠ []) (h1 : signB op = t.text) (hk : t.kind = 3 ∨ t.kind = 1) : btw t = op := by
  unfold btw
  rw [if_pos hk, ← h1]
  rcases allOps_cases hm with h | h | h | h | h | h | h | h | h | h | h | h | h | h | h | h | h <;> subst h <;> first | exact absurd rfl h0 | rfl
theorem ops_mem {op : Int} {k : Nat} (hm : op ∈ allOps) (h0 : signB op ≠ []) (hl : levelI op = k) : op ∈ opsI k := by
  rcases allOps_cases hm with h | h | h | h | h | h | h | h | h | h | h | h | h | h | h | h | h <;> subst h <;> first
    | exact absurd rfl h0
    | (simp [levelI] at hl
       have hk : k = 5 ∨ k = 6 ∨ k = 4 ∨ k = 2 ∨ k = 1 := by omega
       rcases hk with h | h | h | h | h <;> subst h <;> simp [opsI] at hl ⊢)
theorem mem_ops {op : Int} {k : Nat} (h : op ∈ opsI k) : op ∈ allOps ∧ signB op ≠ [] ∧ levelI op = k := by
  unfold opsI at h
  split at h <;> simp only [List.mem_cons, List.not_mem_nil, or_false] at h
  · subst h; decide
  · subst h; decide
  · rcases h with h | h | h | h | h | h <;> subst h <;> decide
  · rcases h with h | h <;> subst h <;> decide
  · subst h; decide
theorem place_at : ∀ (l : List (List UInt8)) (s : List UInt8) (i : Nat), s ∈ l → ∃ j, place l s i = (i + j : Nat) ∧ l[j]? = some s
  | [], s, i, h => by simp at h
  | x :: r, s, i, h => by
    by_cases hx : x = s
    · exact ⟨0, by rw [place, if_pos hx]; rfl, by simp [hx]⟩
    · have : s ∈ r := by
        rcases List.mem_cons.1 h with h | h
        · exact absurd h.symm hx
        · exact h
      obtain ⟨j, h1, h2⟩ := place_at r s (i + 1) this
      exact ⟨j + 1, by rw [place, if_neg hx, h1]; congr 1; omega, by simpa using h2⟩
/-- The sign that is next, of a level. -/
theorem place_btw {k : Nat} {t : Tk} (hk : t.kind = 3 ∨ t.kind = 1) (h : btw t ≠ 0 ∧ levelI (btw t) = k) : ∃ j : Nat, place (signsB k) t.text 0 = j ∧ (opsI k)[j]? = some (btw t) := by
  obtain ⟨s1, s2, s3, _⟩ := btw_sign h.1
  have hm := ops_mem s3 s2 h.2
  have hs : t.text ∈ signsB k := by rw [← s1]; exact List.mem_map_of_mem hm
  obtain ⟨j, h1, h2⟩ := place_at _ _ 0 hs
  refine ⟨j, by rw [h1]; simp, ?_⟩
  unfold signsB at h2
  rw [List.getElem?_map, Option.map_eq_some_iff] at h2
  obtain ⟨op, ho, he⟩ := h2
  obtain ⟨m1, m2, m3⟩ := mem_ops (List.mem_of_getElem? ho)
  rw [ho, btw_of m1 m2 he hk]
theorem place_not {k : Nat} {t : Tk} (hk : t.kind = 3 ∨ t.kind = 1) (h : ¬ (btw t ≠ 0 ∧ levelI (btw t) = k)) : ¬ 0 ≤ place (signsB k) t.text 0 := by
  rw [place_ge]
  intro hm
  unfold signsB at hm
  rw [List.mem_map] at hm
  obtain ⟨op, ho, he⟩ := hm
  obtain ⟨m1, m2, m3⟩ := mem_ops ho
  have := btw_of m1 m2 he hk
  apply h
  rw [this]
  refine ⟨?_, m3⟩
  rcases allOps_cases m1 with h | h | h | h | h | h | h | h | h | h | h | h | h | h | h | h | h <;> omega
theorem btw_kind {t : Tk} (h : ¬ (t.kind = 3 ∨ t.kind = 1)) : btw t = 0 := by unfold btw; rw [if_neg h]
theorem Tm.c_len (t : Tm) : t.c.length = 3 := rfl
theorem rOver_ev (op : Int) (a b : List Tm) (h : a.length + b.length < 1000000) : Gives 297 [I op, L (a.map Tm.c), L (b.map Tm.c)] (.c (L ((over op a b).map Tm.c))) := by
  refine .intro Tryz.func297 (by kernel_rfl) (.of fun k ro gl => ?_)
  have g1 : (1 + a.length) * 32 ≤ 140737488355328 := by omega
  have g2 : 1 + a.length ≤ 9223372036854775807 := by omega
  have g3 : (1 + b.length) * 32 ≤ 140737488355328 := by omega
  have g4 : 1 + b.length ≤ 9223372036854775807 := by omega
  have g5 : (1 + a.length + b.length) * 32 ≤ 140737488355328 := by omega
  have g6 : 1 + a.length + b.length ≤ 9223372036854775807 := by omega
  by_cases ha : a = []
  · subst ha
    by_cases hb : b = []
    · subst hb
      simp -implicitDefEqProofs [Tryz.f297, over, Tm.c]
    · have hb0 : 0 < b.length := List.length_pos_iff.2 hb
      simp -implicitDefEqProofs [Tryz.f297, over, g3, g4, hb, hb0, Tm.c_len]
      rfl
  · have ha0 : 0 < a.length := List.length_pos_iff.2 ha
    by_cases hb : b = []
    · subst hb
      simp -implicitDefEqProofs [Tryz.f297, over, g1, g2, ha, ha0, Tm.c_len]
      rfl
    · have hb0 : 0 < b.length := List.length_pos_iff.2 hb
      have k1 : (a.length + 1) * 32 ≤ 140737488355328 := by omega
      have k2 : a.length ≤ 9223372036854775806 := by omega
      have k3 : (a.length + 1 + b.length) * 32 ≤ 140737488355328 := by omega
      have k4 : a.length + 1 + b.length ≤ 9223372036854775807 := by omega
      simp -implicitDefEqProofs [Tryz.f297, over, Nat.add_comm 1 a.length, k1, k2, k3, k4, ha, ha0, hb, hb0, Tm.c_len]
      rfl
end Go.Proofs.YtckonoejmjblfaaGreatDoor.Ev
