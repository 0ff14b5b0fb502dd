/- Layer 3, the document's answer: classes of bytes, gaps, places. -/
import Derived.Test.YtkklkkppedociaaDoorPkScanB
import Derived.Test.YtkklkkppedociaaDoorPkNam
set_option linter.unusedVariables false
set_option linter.unusedSimpArgs false
set_option maxRecDepth 100000
set_option maxHeartbeats 4000000
namespace Go.Proofs.YtkklkkppedociaaDoor.Ev
open Go Go.RowKit

def clsB (c : UInt8) : Nat := if lowC c then 1 else if figC c then 2 else if c.toNat = 95 then 3 else if blank c.toNat then 4 else if c.toNat = 35 then 5 else 0
def clsO : Option UInt8 → Nat
  | none => 0
  | some c => clsB c
/-- How many bytes of a remark are left. -/
def cm (r : List UInt8) : Nat := (r.takeWhile fun b => !decide (b = 10)).length
/-- How many bytes stand ahead of the next token (Bool: in a remark). -/
def sk : Bool → List UInt8 → Nat
  | _, [] => 0
  | false, b :: r => if blank b.toNat then 1 + sk false r else if b = 35 then 1 + sk true r else 0
  | true, b :: r => if b = 10 then 1 + sk false r else 1 + sk true r
theorem sk_true : ∀ r : List UInt8, sk true r = cm r + sk false (r.drop (cm r))
  | [] => rfl
  | b :: r => by
    by_cases h : b = 10
    · subst h
      simp [sk, cm, blank]
    · have ih := sk_true r
      simp only [sk, if_neg h, ih]
      have e : cm (b :: r) = cm r + 1 := by simp [cm, List.takeWhile_cons, h]
      rw [e, List.drop_succ_cons]
      omega
theorem cm_le (r : List UInt8) : cm r ≤ r.length := takeWhile_le _ r
def gpS (s : List UInt8) (i : Nat) (gl : List (List W)) (ro : Nat) : St := st 34 [(0, .c (T s)), (1, V.int .i64 i)] [] [] gl ro
end Go.Proofs.YtkklkkppedociaaDoor.Ev

/- Layer 3, the document's answer: where the next token begins; places. -/
set_option linter.unusedVariables false
set_option linter.unusedSimpArgs false
set_option maxRecDepth 100000
set_option maxHeartbeats 4000000
namespace Go.Proofs.YtkklkkppedociaaDoor.Ev
open Go Go.RowKit

theorem cls_blank {c : UInt8} (h : blank c.toNat = true) : clsB c = 4 := by
  simp only [blank, Bool.or_eq_true, decide_eq_true_eq] at h
  rcases h with ((h | h) | h) | h <;> simp [clsB, lowC, figC, blank, h]
theorem cls_hash {c : UInt8} (h : c.toNat = 35) : clsB c = 5 := by simp [clsB, lowC, figC, blank, h]
theorem cls_not {c : UInt8} (h1 : ¬ blank c.toNat = true) (h2 : ¬ c.toNat = 35) : clsB c ≠ 4 ∧ clsB c ≠ 5 := by
  unfold clsB
  repeat' split
  all_goals first | exact ⟨by decide, by decide⟩ | contradiction
theorem sk_le : ∀ (b : Bool) (r : List UInt8), sk b r ≤ r.length
  | _, [] => by simp [sk]
  | false, b :: r => by
    have h1 := sk_le false r
    have h2 := sk_le true r
    simp only [sk, List.length_cons]
    split
    · omega
    · split <;> omega
  | true, b :: r => by
    have h1 := sk_le false r
    have h2 := sk_le true r
    simp only [sk, List.length_cons]
    split <;> omega
theorem adv_append : ∀ (a b : List UInt8) (l c : Int), adv (a ++ b) l c = adv b (adv a l c).1 (adv a l c).2
  | [], b, l, c => rfl
  | x :: a, b, l, c => by
    simp only [List.cons_append, adv]
    split <;> exact adv_append a b _ _
def psS (s : List UInt8) (n i : Nat) (p : Int × Int) (gl : List (List W)) (ro : Nat) : St := st 27 [(0, .c (T s)), (1, V.int .i64 n), (4, .c (.w (.box 4 0))), (5, .c (.w (.box 5 0))), (6, V.int .i64 i)] [(4, [.d (.int .i64 0), .d (.int .i64 0)]), (5, [.d (.int .i64 p.1), .d (.int .i64 p.2)])] [] gl ro
theorem adv_bound : ∀ (a : List UInt8) (l c : Int), 0 ≤ l → 0 ≤ c → l ≤ (adv a l c).1 ∧ (adv a l c).1 ≤ l + a.length ∧ 0 ≤ (adv a l c).2 ∧ (adv a l c).2 ≤ c + a.length + 1
  | [], l, c, h1, h2 => by simp [adv]; omega
  | x :: a, l, c, h1, h2 => by
    simp only [adv]
    split
    · have := adv_bound a (l + 1) 1 (by omega) (by omega)
      simp only [List.length_cons]
      omega
    · have := adv_bound a l (c + 1) (by omega) (by omega)
      simp only [List.length_cons]
      omega
end Go.Proofs.YtkklkkppedociaaDoor.Ev

/- Layer 3, the document's answer: the token at a place. -/
set_option linter.unusedVariables false
set_option linter.unusedSimpArgs false
set_option maxRecDepth 100000
set_option maxHeartbeats 4000000
namespace Go.Proofs.YtkklkkppedociaaDoor.Ev
open Go Go.RowKit

theorem cls_low (c : UInt8) : (clsB c = 1) ↔ lowC c = true := by
  unfold clsB
  by_cases h1 : lowC c = true
  · simp [h1]
  · simp only [h1, if_false]
    repeat' split
    all_goals first | (simp; done) | (exfalso; rename_i h; exact Bool.noConfusion h)
theorem fig_low {c : UInt8} (h : figC c = true) : ¬ lowC c = true := by
  simp only [figC, lowC, Bool.and_eq_true, decide_eq_true_eq] at *
  omega
theorem cls_fig (c : UInt8) : (clsB c = 2) ↔ figC c = true := by
  unfold clsB
  by_cases h2 : figC c = true
  · simp [h2, fig_low h2]
  · by_cases h1 : lowC c = true
    · simp [h1, h2]
    · simp only [h1, h2, if_false]
      repeat' split
      all_goals first | (simp; done) | (exfalso; rename_i h; exact Bool.noConfusion h)
theorem cls_word (c : UInt8) : (1 ≤ clsB c ∧ clsB c ≤ 3) ↔ wordC c = true := by
  unfold clsB wordC
  by_cases h1 : lowC c = true
  · simp [h1]
  · by_cases h2 : figC c = true
    · simp [h1, h2]
    · by_cases h3 : c.toNat = 95
      · simp [h1, h2, h3]
      · simp only [h1, h2, h3, if_false, Bool.false_or, decide_false]
        repeat' split
        all_goals first | (simp; done) | (exfalso; rename_i h; exact Bool.noConfusion h)
def onS (s : List UInt8) (i k : Nat) (gl : List (List W)) (ro : Nat) : St := st 92 [(0, .c (T s)), (1, V.int .i64 i), (7, V.int .i64 k)] [] [] gl ro
def mk22 : List (List UInt8) := marks2 ++ marks1.map fun b => [b]
theorem pre_one (c b : UInt8) (r : List UInt8) : pre (c :: r) [b] = decide (c = b) := by
  simp [pre]
theorem find_one (c : UInt8) (r : List UInt8) : ∀ l : List UInt8, ((l.map fun b => [b]).find? (pre (c :: r))) = if 0 ≤ Lib.indexByte l c then some [c] else none
  | [] => by simp [Lib.indexByte]
  | b :: l => by
    have ih := find_one c r l
    have hg := Lib.indexByte_ge l c
    rw [List.map_cons, List.find?_cons, pre_one, Lib.indexByte]
    by_cases h : c = b
    · subst h; simp
    · have h' : (b == c) = false := by simpa using Ne.symm h
      simp only [h, decide_false, ih, h', Bool.false_eq_true, if_false]
      by_cases hi : Lib.indexByte l c = -1
      · simp [hi]
      · have : (Lib.indexByte l c == -1) = false := by simpa using hi
        simp only [this, Bool.false_eq_true, if_false]
        rw [if_pos (by omega), if_pos (by omega)]
theorem find_mark (c : UInt8) (r : List UInt8) : (mk22.find? (pre (c :: r))).map List.length = if markN (c :: r) = 0 then none else some (markN (c :: r)) := by
  unfold mk22 markN
  rw [List.find?_append, find_one]
  cases hf : marks2.find? (pre (c :: r)) with
  | some m =>
    have hm := List.mem_of_find?_eq_some hf
    have hp := List.find?_some hf
    have hl : m.length = 2 := by
      simp only [marks2, List.mem_cons, List.not_mem_nil, or_false] at hm
      rcases hm with rfl | rfl | rfl | rfl | rfl | rfl | rfl <;> rfl
    have ha : hasM2 (c :: r) = true := List.any_eq_true.2 ⟨m, hm, hp⟩
    simp [ha, hl]
  | none =>
    have ha : hasM2 (c :: r) = false := by
      rw [List.find?_eq_none] at hf
      cases h : hasM2 (c :: r) with
      | false => rfl
      | true =>
        obtain ⟨m, hm, hp⟩ := List.any_eq_true.1 h
        exact absurd hp (hf m hm)
    simp only [ha, List.headD_cons, Option.none_or]
    by_cases hi : 0 ≤ Lib.indexByte marks1 c <;> simp [hi]
end Go.Proofs.YtkklkkppedociaaDoor.Ev

/- Layer 3, the document's answer: the token at a place, whole. -/
set_option linter.unusedVariables false
set_option linter.unusedSimpArgs false
set_option maxRecDepth 100000
set_option maxHeartbeats 4000000
namespace Go.Proofs.YtkklkkppedociaaDoor.Ev
open Go Go.RowKit

def omS (s : List UInt8) (i j : Nat) (gl : List (List W)) (ro : Nat) : St := st 92 [(0, .c (T s)), (1, V.int .i64 i), (8, .c (L (mk22.map sD))), (9, V.int .i64 j)] [] [] gl ro
theorem mk22_len {j : Nat} {m : List UInt8} (h : mk22[j]? = some m) : 1 ≤ m.length ∧ m.length ≤ 2 := by
  have hm := List.mem_of_getElem? h
  simp only [mk22, List.mem_append, List.mem_map] at hm
  rcases hm with hm | ⟨b, _, rfl⟩
  · simp only [marks2, List.mem_cons, List.not_mem_nil, or_false] at hm
    rcases hm with rfl | rfl | rfl | rfl | rfl | rfl | rfl <;> simp
  · simp
theorem takeWhile_stop {p : UInt8 → Bool} : ∀ (l : List UInt8) (b : UInt8), l[(l.takeWhile p).length]? = some b → p b = false
  | [], b, h => by simp at h
  | a :: l, b, h => by
    rw [List.takeWhile_cons] at h
    cases ha : p a with
    | true =>
      rw [ha, if_pos rfl, List.length_cons, List.getElem?_cons_succ] at h
      exact takeWhile_stop l b h
    | false =>
      rw [ha] at h
      simp at h
      rw [← h]
      exact ha
end Go.Proofs.YtkklkkppedociaaDoor.Ev
