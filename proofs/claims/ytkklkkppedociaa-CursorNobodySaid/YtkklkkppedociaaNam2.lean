/- Layer 2: names, as the program reads them. -/
import Derived.Test.YtkklkkppedociaaNam
set_option linter.unusedVariables false
set_option linter.unusedSimpArgs false
set_option maxRecDepth 100000
set_option maxHeartbeats 2000000
namespace Go.Proofs.Ytkklkkppedociaa.Ev
open Go Go.RowKit

def isS (s : List UInt8) (i : Nat) (gl : List (List W)) (ro : Bool) : St := st 50 [(19, .c (.w (.box 19 0)))] [] [] gl ro [(19, (s, i))]
def okQ (first : Bool) (q : Nat) : Bool := decide (97 ≤ q ∧ q ≤ 122) || (!first && decide (48 ≤ q ∧ q ≤ 57 ∨ q = 95))
theorem is_on (call : Caller) (N : Nat) (gl : List (List W)) (ro : Bool) (s : List UInt8) (i q w : Nat) (hi : i < s.length) (hd : Utf8.decode ⟨s.toArray⟩ i = (q, w)) (ho : okQ (decide (i = 0)) q = true) :
    (evC Try.prog cf 46 call N (bodyOf Try.f46 0) (isS s i gl ro)).map (hv [19]) = some (.normal, isS s (i + w) gl ro) := by
  simp only [okQ, Bool.or_eq_true, Bool.and_eq_true, Bool.not_eq_true', decide_eq_true_eq, decide_eq_false_iff_not] at ho
  rcases ho with ⟨h1, h2⟩ | ⟨h0, h⟩
  · have a1 : (97 : Int) ≤ q := by omega
    have a2 : (q : Int) ≤ 122 := by omega
    have a3 : (48 : Int) ≤ q := by omega
    have a4 : ¬ (q : Int) ≤ 57 := by omega
    have a5 : ¬ (q : Int) = 95 := by omega
    simp -implicitDefEqProofs [isS, bodyOf, loopsOf, hv, Try.f46, hi, hd, a1, a2, a3, a4, a5]
  · have b0 : ¬ i = 0 := by omega
    rcases h with ⟨h1, h2⟩ | h
    · have a1 : ¬ (97 : Int) ≤ q := by omega
      have a3 : (48 : Int) ≤ q := by omega
      have a4 : (q : Int) ≤ 57 := by omega
      have a5 : ¬ (q : Int) = 95 := by omega
      simp -implicitDefEqProofs [isS, bodyOf, loopsOf, hv, Try.f46, hi, hd, a1, a3, a4, a5, b0]
    · subst h
      simp -implicitDefEqProofs [isS, bodyOf, loopsOf, hv, Try.f46, hi, hd, b0]
theorem is_bad (call : Caller) (N : Nat) (gl : List (List W)) (ro : Bool) (s : List UInt8) (i q w : Nat) (hi : i < s.length) (hd : Utf8.decode ⟨s.toArray⟩ i = (q, w)) (ho : okQ (decide (i = 0)) q = false) :
    (evC Try.prog cf 46 call N (bodyOf Try.f46 0) (isS s i gl ro)).map (hv [2]) = some (.ret, st 50 [(2, V.bool false)] [] [] gl ro) := by
  have key : (q < 48 ∧ q ≠ 95) ∨ (48 ≤ q ∧ q ≤ 57 ∧ i = 0) ∨ (57 < q ∧ q < 97 ∧ q ≠ 95) ∨ (q = 95 ∧ i = 0) ∨ 122 < q := by
    simp [okQ] at ho
    omega
  rcases key with h | h | h | h | h
  · have a1 : ¬ (97 : Int) ≤ q := by omega
    have a3 : ¬ (48 : Int) ≤ q := by omega
    have a5 : ¬ (q : Int) = 95 := by omega
    by_cases b0 : i = 0
    · subst b0
      simp -implicitDefEqProofs [isS, bodyOf, loopsOf, hv, Try.f46, hi, hd, a1, a3, a5]
    · simp -implicitDefEqProofs [isS, bodyOf, loopsOf, hv, Try.f46, hi, hd, a1, a3, a5, b0]
  · obtain ⟨h1, h2, rfl⟩ := h
    have a1 : ¬ (97 : Int) ≤ q := by omega
    have a3 : (48 : Int) ≤ q := by omega
    have a4 : (q : Int) ≤ 57 := by omega
    have a5 : ¬ (q : Int) = 95 := by omega
    simp -implicitDefEqProofs [isS, bodyOf, loopsOf, hv, Try.f46, hi, hd, a1, a3, a4, a5]
  · have a1 : ¬ (97 : Int) ≤ q := by omega
    have a3 : (48 : Int) ≤ q := by omega
    have a4 : ¬ (q : Int) ≤ 57 := by omega
    have a5 : ¬ (q : Int) = 95 := by omega
    by_cases b0 : i = 0
    · subst b0
      simp -implicitDefEqProofs [isS, bodyOf, loopsOf, hv, Try.f46, hi, hd, a1, a3, a4, a5]
    · simp -implicitDefEqProofs [isS, bodyOf, loopsOf, hv, Try.f46, hi, hd, a1, a3, a4, a5, b0]
  · obtain ⟨rfl, rfl⟩ := h
    simp -implicitDefEqProofs [isS, bodyOf, loopsOf, hv, Try.f46, hi, hd]
  · have a1 : (97 : Int) ≤ q := by omega
    have a2 : ¬ (q : Int) ≤ 122 := by omega
    have a3 : (48 : Int) ≤ q := by omega
    have a4 : ¬ (q : Int) ≤ 57 := by omega
    have a5 : ¬ (q : Int) = 95 := by omega
    by_cases b0 : i = 0
    · subst b0
      simp -implicitDefEqProofs [isS, bodyOf, loopsOf, hv, Try.f46, hi, hd, a1, a2, a3, a4, a5]
    · simp -implicitDefEqProofs [isS, bodyOf, loopsOf, hv, Try.f46, hi, hd, a1, a2, a3, a4, a5, b0]
theorem is_end (call : Caller) (N : Nat) (gl : List (List W)) (ro : Bool) (s : List UInt8) :
    (evC Try.prog cf 46 call N (bodyOf Try.f46 0) (isS s s.length gl ro)).map (hv [19]) = some (.exit 0, isS s s.length gl ro) := by
  simp -implicitDefEqProofs [isS, bodyOf, loopsOf, hv, Try.f46]
theorem dec_mid (p r : List UInt8) (c : UInt8) : (c.toNat < 128 ∧ Utf8.decode ⟨(p ++ c :: r).toArray⟩ p.length = (c.toNat, 1)) ∨ (128 ≤ c.toNat ∧ 128 ≤ (Utf8.decode ⟨(p ++ c :: r).toArray⟩ p.length).1) := by
  have h : p.length < (⟨(p ++ c :: r).toArray⟩ : ByteArray).size := by simp
  have e : ((⟨(p ++ c :: r).toArray⟩ : ByteArray)[p.length]'h) = c := by
    show (p ++ c :: r).toArray[p.length]'_ = c
    simp
  rcases Nat.lt_or_ge c.toNat 128 with hc | hc
  · refine .inl ⟨hc, ?_⟩
    have := decode_ascii ⟨(p ++ c :: r).toArray⟩ p.length h (by rw [e]; exact hc)
    rw [this, e]
  · exact .inr ⟨hc, (decode_high ⟨(p ++ c :: r).toArray⟩ p.length h (by rw [e]; exact hc)).1⟩
theorem is_loop (call : Caller) (N : Nat) (gl : List (List W)) (ro : Bool) (s : List UInt8) (n : Nat) (hn : s.length < n) (S : St) (hS : S.hav [19] = isS s 0 gl ro) :
    loopA (evC Try.prog cf 46 call N (bodyOf Try.f46 0)) [19] [2] n S = some (if nmL true s then (.exit 0, isS s s.length gl ro) else (.ret, st 50 [(2, V.bool false)] [] [] gl ro)) := by
  refine loop_by (fun a : List UInt8 × List UInt8 => isS s a.1.length gl ro) (fun a => s = a.1 ++ a.2) (fun a => a.2.length) (fun a => if nmL a.1.isEmpty a.2 then (.exit 0, isS s s.length gl ro) else (.ret, st 50 [(2, V.bool false)] [] [] gl ro)) ?_ n ([], s) S rfl hn hS
  rintro ⟨p, r⟩ hs
  simp only at hs
  cases r with
  | nil =>
    obtain rfl : s = p := by simpa using hs
    exact .inr (.inl ⟨0, _, is_end call N gl ro s, by simp [nmL]⟩)
  | cons c r =>
    have hi : p.length < s.length := by rw [hs]; simp
    have hlow : ∀ b, okQ b c.toNat = (lowB c || (!b && othB c)) := fun b => rfl
    have hemp : p.isEmpty = decide (p.length = 0) := by cases p <;> simp
    rcases dec_mid p r c with ⟨hc, hd⟩ | ⟨hc, hd⟩
    · rw [← hs] at hd
      cases ho : okQ (decide (p.length = 0)) c.toNat with
      | true =>
        refine .inl ⟨(p ++ [c], r), by simp [hs], by simp, ?_, ?_⟩
        · have := is_on call N gl ro s p.length _ _ hi hd ho
          simpa using this
        · show (if nmL p.isEmpty (c :: r) = true then _ else _) = (if nmL (p ++ [c]).isEmpty r = true then _ else _)
          rw [show (p ++ [c]).isEmpty = false by simp, show nmL p.isEmpty (c :: r) = nmL false r by rw [nmL, hemp, ← hlow, ho, Bool.true_and]]
      | false =>
        refine .inr (.inr ⟨_, is_bad call N gl ro s p.length _ _ hi hd ho, ?_⟩)
        show (if nmL p.isEmpty (c :: r) = true then _ else _) = _
        rw [show nmL p.isEmpty (c :: r) = false by rw [nmL, hemp, ← hlow, ho, Bool.false_and]]
        rfl
    · rw [← hs] at hd
      have ho : ∀ b q, 128 ≤ q → okQ b q = false := by
        intro b q hq
        simp [okQ]
        omega
      refine .inr (.inr ⟨_, is_bad call N gl ro s p.length _ _ hi rfl (ho _ _ hd), ?_⟩)
      show (if nmL p.isEmpty (c :: r) = true then _ else _) = _
      rw [show nmL p.isEmpty (c :: r) = false by rw [nmL, ← hlow, ho _ _ hc, Bool.false_and]]
      rfl
theorem nIs_ev (s : List UInt8) (hs : s.length < 4611686018427387904) : Gives 46 [T s] (V.bool (isName s)) := by
  refine .intro Try.func46 (by kernel_rfl) ((Keyword_ev s).and (Evt.ge (s.length + 1)) |>.imp fun k ⟨h1, hk⟩ ro gl => ?_)
  have hl : s.length ≤ 9223372036854775807 := by omega
  unfold isName
  by_cases c1 : s = []
  · subst c1
    simp -implicitDefEqProofs [Try.f46]
  · have c1' : 1 ≤ s.length := by cases s <;> simp at c1 ⊢
    by_cases c2 : 12 < s.length
    · have c2' : (12 : Int) < s.length := by omega
      have c2'' : ¬ s.length ≤ 12 := by omega
      simp -implicitDefEqProofs [Try.f46, c1, c2', c2'']
    · have c2' : ¬ (12 : Int) < s.length := by omega
      have c2'' : s.length ≤ 12 := by omega
      by_cases c3 : s ∈ kws
      · simp -implicitDefEqProofs [Try.f46, c1, c2', c2'', h1, c3, hl]
      · have tail : ∀ S : St, S.hav [19] = isS s 0 gl ro → loopC Try.prog cf 46 (ev k) k (bodyOf Try.f46 0) S = _ := fun S hS => is_loop (ev k) k gl ro s k (by omega) S hS
        simp -implicitDefEqProofs [Try.f46, c1, c2', c2'', h1, c3, hl]
        refine bind_go (tail _ ?_) ?_
        · simp [isS]
        · cases nmL true s <;> simp [isS, c1', c2'', c3]
end Go.Proofs.Ytkklkkppedociaa.Ev
