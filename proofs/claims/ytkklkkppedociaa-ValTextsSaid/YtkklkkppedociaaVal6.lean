/- Layer 1: texts and what they say. -/
import Derived.Test.YtkklkkppedociaaVal5
set_option linter.unusedVariables false
set_option linter.unusedSimpArgs false
set_option maxRecDepth 100000
set_option maxHeartbeats 2000000
namespace Go.Proofs.Ytkklkkppedociaa.Ev
open Go Go.RowKit

def isDig (c : UInt8) : Prop := ¬ (c.toNat < 48 ∨ 57 < c.toNat)
def vN (m : Nat) (l : List UInt8) : Nat := l.foldl (fun m c => 10 * m + (c.toNat - 48)) m
theorem vN_ge : ∀ (l : List UInt8) (m : Nat), m ≤ vN m l
  | [], m => Nat.le_refl _
  | c :: l, m => by have := vN_ge l (10 * m + (c.toNat - 48)); simp only [vN, List.foldl_cons] at *; omega
theorem vN_snoc (l : List UInt8) (m : Nat) (c : UInt8) : vN m (l ++ [c]) = 10 * vN m l + (c.toNat - 48) := by simp [vN]
theorem scan_over : ∀ (l : List UInt8), (∀ c ∈ l, isDig c) → scan l 1000000 true = some (1000000, true)
  | [], _ => rfl
  | c :: l, h => by
    have hc := h c (by simp)
    unfold isDig at hc
    simp only [scan]
    rw [if_neg hc, if_pos (by omega)]
    exact scan_over l fun d hd => h d (by simp [hd])
theorem scan_val : ∀ (l : List UInt8) (n : Nat), (∀ c ∈ l, isDig c) → n ≤ 1000000 → scan l n false = if vN n l ≤ 1000000 then some ((vN n l : Int), false) else some (1000000, true)
  | [], n, _, h => by
    show some ((n : Int), false) = if n ≤ 1000000 then _ else _
    rw [if_pos h]; rfl
  | c :: l, n, h, hn => by
    have hc := h c (by simp)
    unfold isDig at hc
    have hl : ∀ d ∈ l, isDig d := fun d hd => h d (by simp [hd])
    simp only [scan]
    rw [if_neg hc]
    have e : vN n (c :: l) = vN (10 * n + (c.toNat - 48)) l := rfl
    have := vN_ge l (10 * n + (c.toNat - 48))
    by_cases ho : 1000000 < (n : Int) * 10 + ((c.toNat : Int) - 48)
    · rw [if_pos ho, scan_over l hl, if_neg (by omega)]
    · rw [if_neg ho, show (n : Int) * 10 + ((c.toNat : Int) - 48) = ((10 * n + (c.toNat - 48) : Nat) : Int) by omega, scan_val l _ hl (by omega), e]
theorem scan_dig : ∀ (l : List UInt8) (n : Int) (o : Bool) (r : Int × Bool), scan l n o = some r → ∀ c ∈ l, isDig c
  | [], _, _, _, _ => fun c hc => by simp at hc
  | c :: l, n, o, r, h => by
    simp only [scan] at h
    by_cases hc : c.toNat < 48 ∨ 57 < c.toNat
    · rw [if_pos hc] at h; cases h
    · rw [if_neg hc] at h
      intro d hd
      rcases List.mem_cons.1 hd with rfl | hd
      · exact hc
      · split at h
        · exact scan_dig l _ _ _ h d hd
        · exact scan_dig l _ _ _ h d hd
theorem ofNat_toNat (m : Nat) (h : m < 256) : (UInt8.ofNat m).toNat = m := by rw [UInt8.toNat_ofNat']; omega
theorem dg_dig (n : Nat) : ∀ c ∈ dg n, isDig c := by
  induction n using Nat.strongRecOn with
  | _ n ih =>
    have hm : n % 10 < 10 := Nat.mod_lt _ (by omega)
    by_cases h : n < 10
    · rw [dg_lt h]
      intro c hc
      simp only [List.mem_singleton] at hc
      subst hc
      unfold isDig
      rw [ofNat_toNat _ (by omega)]
      omega
    · rw [dg_ge h]
      intro c hc
      rcases List.mem_append.1 hc with hc | hc
      · exact ih _ (by omega) c hc
      · simp only [List.mem_singleton] at hc
        subst hc
        unfold isDig
        rw [ofNat_toNat _ (by omega)]
        omega
theorem vN_dg (n : Nat) : vN 0 (dg n) = n := by
  induction n using Nat.strongRecOn with
  | _ n ih =>
    by_cases h : n < 10
    · rw [dg_lt h]
      simp only [vN, List.foldl_cons, List.foldl_nil]
      rw [ofNat_toNat _ (by omega)]
      omega
    · rw [dg_ge h, vN_snoc, ih _ (by omega), ofNat_toNat _ (by omega)]
      omega
theorem dg_ne (n : Nat) : dg n ≠ [] := by
  by_cases h : n < 10
  · rw [dg_lt h]; simp
  · rw [dg_ge h]; simp
theorem dg_head (n : Nat) (hn : 0 < n) : ∃ c r, dg n = c :: r ∧ 48 < c.toNat := by
  induction n using Nat.strongRecOn with
  | _ n ih =>
    by_cases h : n < 10
    · rw [dg_lt h]
      exact ⟨_, _, rfl, by rw [ofNat_toNat _ (by omega)]; omega⟩
    · obtain ⟨c, r, h1, h2⟩ := ih (n / 10) (by omega) (by omega)
      exact ⟨c, r ++ [UInt8.ofNat (48 + n % 10)], by rw [dg_ge h, h1]; rfl, h2⟩
/-- No leading zero. -/
def trim (s : List UInt8) : Prop := ¬ (s = [] ∨ (1 < s.length ∧ s[0]? = some 48))
theorem dg_trim (n : Nat) : trim (dg n) := by
  unfold trim
  rcases Nat.eq_zero_or_pos n with rfl | hn
  · rw [dg_lt (by omega)]; simp
  · obtain ⟨c, r, h1, h2⟩ := dg_head n hn
    rw [h1]
    simp
    rintro - rfl
    simp at h2
theorem dg_vN (s : List UInt8) : trim s → (∀ c ∈ s, isDig c) → dg (vN 0 s) = s := by
  induction hk : s.length generalizing s with
  | zero => intro h; exact absurd (List.length_eq_zero_iff.1 hk) (fun e => h (.inl e))
  | succ k ih =>
    intro h hd
    obtain ⟨l, c, rfl⟩ : ∃ l c, s = l ++ [c] := by
      rcases List.eq_nil_or_concat s with rfl | ⟨l, c, rfl⟩
      · simp at hk
      · exact ⟨l, c, by simp⟩
    have hc := hd c (by simp)
    unfold isDig at hc
    have ec : UInt8.ofNat (48 + (c.toNat - 48)) = c := UInt8.toNat_inj.1 (by rw [ofNat_toNat _ (by omega)]; omega)
    rcases l with _ | ⟨a, l⟩
    · simp only [List.nil_append, vN, List.foldl_cons, List.foldl_nil]
      rw [dg_lt (by omega)]
      simp only [Nat.mul_zero, Nat.zero_add]
      rw [ec]
    · have ha := hd a (by simp)
      unfold isDig at ha
      have ha48 : a ≠ 48 := by
        rintro rfl
        exact h (.inr ⟨by simp, by simp⟩)
      have ha49 : 48 < a.toNat := by
        rcases Nat.lt_or_eq_of_le (show 48 ≤ a.toNat by omega) with h | h
        · exact h
        · exact absurd (UInt8.toNat_inj.1 (show a.toNat = (48 : UInt8).toNat by simp; omega)) ha48
      have e := ih (a :: l) (by simp at hk ⊢; omega) (fun h' => by
        rcases h' with h' | ⟨_, h'⟩
        · simp at h'
        · simp at h'; exact ha48 h') (fun d hd' => hd d (by simp at hd' ⊢; rcases hd' with h | h; exact .inl h; exact .inr (.inl h)))
      have hv : 1 ≤ vN 0 (a :: l) := by
        have : vN 0 (a :: l) = vN (10 * 0 + (a.toNat - 48)) l := rfl
        have := vN_ge l (10 * 0 + (a.toNat - 48))
        omega
      rw [vN_snoc, dg_ge (by omega), show (10 * vN 0 (a :: l) + (c.toNat - 48)) / 10 = vN 0 (a :: l) by omega, e, show (10 * vN 0 (a :: l) + (c.toNat - 48)) % 10 = c.toNat - 48 by omega, ec]
theorem getR_trim (s : List UInt8) (ht : trim s) (hd : ∀ c ∈ s, isDig c) : getR s = if vN 0 s ≤ 1000000 then V.tup [I (vN 0 s), I 0] else V.tup [I 0, I 3] := by
  unfold getR
  rw [if_neg ht, show scan s 0 false = scan s ((0 : Nat) : Int) false from rfl, scan_val s 0 hd (by omega)]
  split <;> rfl
theorem getR_cases (s : List UInt8) : (∃ e : Int, getR s = .tup [I 0, I e] ∧ e ≠ 0) ∨ (∃ x : Int, getR s = .tup [I x, I 0] ∧ num x = s ∧ 0 ≤ x ∧ x ≤ 1000000) := by
  by_cases ht : trim s
  · cases hs : scan s 0 false with
    | none =>
      refine .inl ⟨2, ?_, by decide⟩
      unfold getR
      rw [if_neg ht, hs]
      rfl
    | some r =>
      have hd := scan_dig _ _ _ _ hs
      rw [getR_trim s ht hd]
      by_cases hv : vN 0 s ≤ 1000000
      · refine .inr ⟨vN 0 s, by rw [if_pos hv], ?_, by omega, by omega⟩
        unfold num
        rw [if_neg (by omega), Int.natAbs_natCast, dg_vN s ht hd]
      · exact .inl ⟨3, by rw [if_neg hv], by decide⟩
  · refine .inl ⟨2, ?_, by decide⟩
    unfold getR
    unfold trim at ht
    rw [if_pos (Classical.not_not.1 ht)]
theorem getR_num (n : Int) : ((0 ≤ n ∧ n ≤ 1000000) ∧ getR (num n) = .tup [I n, I 0]) ∨ (¬ (0 ≤ n ∧ n ≤ 1000000) ∧ ∃ e : Int, getR (num n) = .tup [I 0, I e] ∧ e ≠ 0) := by
  unfold num
  by_cases h0 : n < 0
  · rw [if_pos h0]
    refine .inr ⟨by omega, 2, ?_, by decide⟩
    unfold getR
    split
    · rfl
    · simp [scan, scanR]
  · rw [if_neg h0, getR_trim _ (dg_trim _) (dg_dig _), vN_dg]
    by_cases hn : n ≤ 1000000
    · exact .inl ⟨by omega, by rw [if_pos (by omega), show ((n.natAbs : Nat) : Int) = n by omega]⟩
    · exact .inr ⟨by omega, 3, by rw [if_neg (by omega)], by decide⟩
theorem num_len (n : Int) (h : -9223372036854775808 ≤ n ∧ n ≤ 9223372036854775807) : (num n).length ≤ 21 := by
  have := dg_len n.natAbs 19 (by omega)
  unfold num
  split <;> simp <;> omega
theorem ValTexts_ev (n : Int) (hn : -9223372036854775808 ≤ n ∧ n ≤ 9223372036854775807) (s : List UInt8) (hs : s.length ≤ maxLen) : Gives 3 [I n, T s] (V.bool true) := by
  simp only [maxLen_eq] at hs
  by_cases hl : 60 < s.length
  · have hl' : (60 : Int) < s.length := by omega
    refine .intro Try.func3 (by decide) (awake01_ev.imp fun k h0 ro gl => ?_)
    simp [Try.f3, h0, hl', hs]
  · have hl' : ¬ (60 : Int) < s.length := by omega
    have hnl := num_len n hn
    have base := awake01_ev.and ((Get_ev s (by omega)).and ((rGet_ev s (by omega)).and ((Put_ev n hn).and ((rPut_ev n hn).and (Get_ev (num n) (by omega))))))
    rcases getR_cases s with ⟨e, h1, he⟩ | ⟨x, h1, h2, h3⟩
    · rw [h1] at base
      rcases getR_num n with ⟨h4, h5⟩ | ⟨h4, e', h5, he'⟩
      · rw [h5] at base
        refine .intro Try.func3 (by decide) (base.imp fun k ⟨h0, k1, k2, k3, k4, k5⟩ ro gl => ?_)
        simp [Try.f3, h0, hl', hs, k1, k2, k3, k4, k5, he, h4.1, h4.2]
      · rw [h5] at base
        refine .intro Try.func3 (by decide) (base.imp fun k ⟨h0, k1, k2, k3, k4, k5⟩ ro gl => ?_)
        by_cases h6 : 0 ≤ n
        · have h7 : ¬ n ≤ 1000000 := fun h => h4 ⟨h6, h⟩
          have h8 : ¬ 0 = n := by omega
          simp [Try.f3, h0, hl', hs, k1, k2, k3, k4, k5, he, he', h6, h7, h8]
        · have h8 : ¬ 0 = n := by omega
          simp [Try.f3, h0, hl', hs, k1, k2, k3, k4, k5, he, he', h6, h8]
    · rw [h1] at base
      have base := base.and (Put_ev x (by omega))
      rw [h2] at base
      rcases getR_num n with ⟨h4, h5⟩ | ⟨h4, e', h5, he'⟩
      · rw [h5] at base
        refine .intro Try.func3 (by decide) (base.imp fun k ⟨⟨h0, k1, k2, k3, k4, k5⟩, k6⟩ ro gl => ?_)
        simp [Try.f3, h0, hl', hs, k1, k2, k3, k4, k5, k6, h4.1, h4.2]
      · rw [h5] at base
        refine .intro Try.func3 (by decide) (base.imp fun k ⟨⟨h0, k1, k2, k3, k4, k5⟩, k6⟩ ro gl => ?_)
        by_cases h6 : 0 ≤ n
        · have h7 : ¬ n ≤ 1000000 := fun h => h4 ⟨h6, h⟩
          have h8 : ¬ 0 = n := by omega
          simp [Try.f3, h0, hl', hs, k1, k2, k3, k4, k5, k6, he', h6, h7, h8]
        · have h8 : ¬ 0 = n := by omega
          simp [Try.f3, h0, hl', hs, k1, k2, k3, k4, k5, k6, he', h6, h8]
end Go.Proofs.Ytkklkkppedociaa.Ev
