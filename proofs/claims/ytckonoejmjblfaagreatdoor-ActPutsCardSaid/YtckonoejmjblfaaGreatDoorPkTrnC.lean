/- Layer 9: a transition's text comes to its words, and is read as it. -/
import Derived.Test.YtckonoejmjblfaaGreatDoorPkTrnB
set_option linter.unusedVariables false
set_option linter.unusedSimpArgs false
set_option maxRecDepth 100000
set_option maxHeartbeats 2000000
namespace Go.Proofs.YtckonoejmjblfaaGreatDoor.Ev
open Go Go.RowKit

theorem next_n1 {c : UInt8} (hc : c ∈ ([91, 93, 47, 59] : List UInt8)) (s : List UInt8) : nextT ([c] ++ s) = (3, 1, 0) := by
  simp only [List.mem_cons, List.not_mem_nil, or_false] at hc
  rcases hc with rfl | rfl | rfl | rfl <;>
    simp [nextT, lowC, figC, markN, hasM2, marks2, pre, marks1, Lib.indexByte]
theorem next_nn {w : List UInt8} (hc : w ∈ ([[58, 61], [45, 62]] : List (List UInt8))) (s : List UInt8) : nextT (w ++ s) = (3, 2, 0) := by
  simp only [List.mem_cons, List.not_mem_nil, or_false] at hc
  rcases hc with rfl | rfl <;>
    simp [nextT, lowC, figC, markN, hasM2, marks2, pre]
theorem Sc.n1 {c : UInt8} (hc : c ∈ ([91, 93, 47, 59] : List UInt8)) {s : List UInt8} {ws : List Wd} (h : Sc s ws) : Sc (c :: s) ((3, [c]) :: ws) :=
  .word (w := [c]) (next_n1 hc s) (by simp) (by
    simp only [List.mem_cons, List.not_mem_nil, or_false] at hc
    rcases hc with rfl | rfl | rfl | rfl <;> exact nbH_cons (by decide) (by decide) s) h
theorem Sc.nn {w : List UInt8} (hc : w ∈ ([[58, 61], [45, 62]] : List (List UInt8))) {s : List UInt8} {ws : List Wd} (h : Sc s ws) : Sc (w ++ s) ((3, w) :: ws) := by
  have h2 : w.length = 2 := by
    simp only [List.mem_cons, List.not_mem_nil, or_false] at hc
    rcases hc with rfl | rfl <;> rfl
  refine .word (by rw [h2]; exact next_nn hc s) (by intro e; rw [e] at h2; cases h2) ?_ h
  simp only [List.mem_cons, List.not_mem_nil, or_false] at hc
  rcases hc with rfl | rfl <;> exact nbH_cons (by decide) (by decide) _
theorem key2_sc {w : List UInt8} (h : w ∈ ([bAny, bAuto, bOn] : List (List UInt8))) {s : List UInt8} {ws : List Wd} (hs : sepH s) (k : Sc s ws) : Sc (w ++ s) ((1, w) :: ws) := by
  refine .name ?_ ?_ ?_ ?_ hs k <;>
  · simp only [List.mem_cons, List.not_mem_nil, or_false] at h
    rcases h with rfl | rfl | rfl <;> decide
theorem txtV_sc {l : List Tm} (h0 : checkV l = 0) {s : List UInt8} {ws : List Wd} (hs : sepH s) (k : Sc s ws) : Sc (txtV l ++ s) (exprW l ++ ws) ∧ begS (txtV l) := by
  obtain ⟨e, e1, e2, e3, e4, e5⟩ := checkV_tree h0
  rw [txtV_eq e1 e2, exprW_eq e1 e2]
  exact ⟨txt_sc e e1 e3 s ws hs k, txt_beg e e1 e3⟩
theorem sep32 (s : List UInt8) : sepH (32 :: s) := sepH_cons (by decide) s
theorem nb_name {n : List UInt8} (h : isName n = true) (s : List UInt8) : nbH (n ++ s) := (isName_beg h).app s |>.nb
theorem actT_sc {a : Ac} (h0 : actE a = 0) {s : List UInt8} {ws : List Wd} (hs : sepH s) (k : Sc s ws) : Sc (actT a ++ s) (actW a ++ ws) ∧ nbH (actT a ++ s) := by
  obtain ⟨p1, p2, p3⟩ := actE_parts h0
  obtain ⟨nm, an, ex⟩ := a
  simp only at p1 p2 p3
  unfold actT actW
  cases an with
  | true =>
    have k1 := isName_sc p1 hs k
    have k2 := Sc.sp (nb_name p1 s) k1
    have k3 := key2_sc (w := bAny) (by decide) (sep32 _) k2
    exact ⟨by simpa using k3, nbH_cons (by decide) (by decide) _⟩
  | false =>
    obtain ⟨k1, hb⟩ := txtV_sc (p3 rfl) hs k
    have k2 := Sc.sp (hb.app s).nb k1
    have k3 := Sc.nn (w := bGets) (by decide) k2
    have k4 := Sc.sp (nbH_cons (by decide) (by decide) _) k3
    have k5 := isName_sc p1 (sep32 _) k4
    refine ⟨by simpa using k5, ?_⟩
    have := nb_name p1 (32 :: (bGets ++ 32 :: txtV ex) ++ s)
    simpa using this
theorem putA_sc : ∀ (l : List Ac), l ≠ [] → (∀ a ∈ l, actE a = 0) → ∀ {s : List UInt8} {ws : List Wd}, sepH s → Sc s ws → Sc (putA l ++ s) (actsW l ++ ws) ∧ nbH (putA l ++ s)
  | [], h, _, _, _, _, _ => absurd rfl h
  | [a], _, h, s, ws, hs, k => actT_sc (h a (by simp)) hs k
  | a :: b :: r, _, h, s, ws, hs, k => by
    obtain ⟨k1, n1⟩ := putA_sc (b :: r) (by simp) (fun x hx => h x (by simp at hx ⊢; exact .inr hx)) hs k
    have k2 := Sc.sp n1 k1
    have k3 := Sc.m1 (c := 44) (by decide) k2
    obtain ⟨k4, n4⟩ := actT_sc (h a (by simp)) (sepH_cons (by decide) _) k3
    exact ⟨by simpa [putA, actsW] using k4, by simpa [putA] using n4⟩
theorem putT_sc {t : Tn} (h0 : checkT t = 0) : Sc (putT t) (tnW t) := by
  obtain ⟨p1, p2, p3, p4⟩ := checkT_parts h0
  obtain ⟨a1, a2⟩ := checkA_all p4
  obtain ⟨ev', gd, ac, tg⟩ := t
  simp only at p1 p2 p3 a2
  unfold putT tnW
  simp only
  have s0 : Sc [59] [(3, [59])] := .n1 (by decide) .nil
  have k4 : Sc ((if tg = [] then [] else 32 :: (bTo ++ 32 :: tg)) ++ [59]) ((if tg = [] then [] else [(3, bTo), (1, tg)]) ++ [(3, [59])]) ∧ sepH ((if tg = [] then [] else 32 :: (bTo ++ 32 :: tg)) ++ [59]) := by
    by_cases h : tg = []
    · rw [if_pos h, if_pos h]
      exact ⟨s0, sepH_cons (by decide) _⟩
    · rw [if_neg h, if_neg h]
      have k1 := isName_sc (p2.resolve_left h) (sepH_cons (by decide) _) s0
      have k2 := Sc.sp (nb_name (p2.resolve_left h) _) k1
      have k3 := Sc.nn (w := bTo) (by decide) k2
      have k4 := Sc.sp (nbH_cons (by decide) (by decide) _) k3
      exact ⟨by simpa using k4, sep32 _⟩
  obtain ⟨k4, n4⟩ := k4
  generalize (if tg = [] then [] else 32 :: (bTo ++ 32 :: tg)) ++ [59] = c4 at k4 n4 ⊢
  generalize (if tg = [] then [] else [(3, bTo), (1, tg)]) ++ [((3 : Int), [(59 : UInt8)])] = w4 at k4 ⊢
  have k3 : Sc ((if ac = [] then [] else 32 :: 47 :: 32 :: putA ac) ++ c4) ((if ac = [] then [] else (3, [47]) :: actsW ac) ++ w4) ∧ sepH ((if ac = [] then [] else 32 :: 47 :: 32 :: putA ac) ++ c4) := by
    by_cases h : ac = []
    · rw [if_pos h, if_pos h]
      exact ⟨k4, n4⟩
    · rw [if_neg h, if_neg h]
      obtain ⟨k1, m1⟩ := putA_sc ac h a2 n4 k4
      have k2 := Sc.sp m1 k1
      have k3 := Sc.n1 (c := 47) (by decide) k2
      have k5 := Sc.sp (nbH_cons (by decide) (by decide) _) k3
      exact ⟨by simpa using k5, sep32 _⟩
  obtain ⟨k3, n3⟩ := k3
  generalize (if ac = [] then [] else 32 :: 47 :: 32 :: putA ac) ++ c4 = c3 at k3 n3 ⊢
  generalize (if ac = [] then [] else ((3 : Int), [(47 : UInt8)]) :: actsW ac) ++ w4 = w3 at k3 ⊢
  have k2 : Sc ((if gd = [] then [] else 32 :: 91 :: (txtV gd ++ [93])) ++ c3) ((if gd = [] then [] else (3, [91]) :: (exprW gd ++ [(3, [93])])) ++ w3) ∧ sepH ((if gd = [] then [] else 32 :: 91 :: (txtV gd ++ [93])) ++ c3) := by
    by_cases h : gd = []
    · rw [if_pos h, if_pos h]
      exact ⟨k3, n3⟩
    · rw [if_neg h, if_neg h]
      have k1 := Sc.n1 (c := 93) (by decide) k3
      obtain ⟨k2, m2⟩ := txtV_sc (p3.resolve_left h) (sepH_cons (by decide) c3) k1
      have k4 := Sc.n1 (c := 91) (by decide) k2
      have k5 := Sc.sp (nbH_cons (by decide) (by decide) _) k4
      exact ⟨by simpa using k5, sep32 _⟩
  obtain ⟨k2, n2⟩ := k2
  generalize (if gd = [] then [] else 32 :: 91 :: (txtV gd ++ [93])) ++ c3 = c2 at k2 n2 ⊢
  generalize (if gd = [] then [] else ((3 : Int), [(91 : UInt8)]) :: (exprW gd ++ [(3, [93])])) ++ w3 = w2 at k2 ⊢
  by_cases h : ev' = []
  · rw [if_pos h, if_pos h]
    exact key2_sc (w := bAuto) (by decide) n2 k2
  · rw [if_neg h, if_neg h]
    have q1 := isName_sc (p1.resolve_left h) n2 k2
    have q2 := Sc.sp (nb_name (p1.resolve_left h) _) q1
    have q3 := key2_sc (w := bOn) (by decide) (sep32 _) q2
    simpa using q3
theorem putT_len {t : Tn} (h0 : checkT t = 0) : (putT t).length ≤ 10000 := by
  obtain ⟨p1, p2, p3, p4⟩ := checkT_parts h0
  obtain ⟨a1, a2⟩ := checkA_all p4
  have n1 := named_len p1
  have n2 := named_len p2
  have n3 := guard_len p3
  have n4 := putA_len t.acts a2
  have b1 : (if t.event = [] then bAuto else bOn ++ 32 :: t.event).length ≤ 20 := by split <;> simp; omega
  have b2 : (if t.guard = [] then [] else 32 :: 91 :: (txtV t.guard ++ [93])).length ≤ 810 := by split <;> simp; omega
  have b3 : (if t.acts = [] then [] else 32 :: 47 :: 32 :: putA t.acts).length ≤ 7000 := by
    split
    · simp
    · simp only [List.length_cons]; omega
  have b4 : (if t.target = [] then [] else 32 :: (bTo ++ 32 :: t.target)).length ≤ 30 := by split <;> simp; omega
  unfold putT
  simp only [List.length_append, List.length_singleton]
  omega
theorem exprW_len {l : List Tm} (h0 : l = [] ∨ checkV l = 0) : (exprW l).length ≤ 320 := by
  rcases h0 with rfl | h0
  · simp [exprW, stk]
  · obtain ⟨e, e1, e2, e3, e4, e5⟩ := checkV_tree h0
    rw [exprW_eq e1 e2]
    have := wds_len e
    omega
theorem actW_len {a : Ac} (h : actE a = 0) : (actW a).length ≤ 322 := by
  obtain ⟨p1, p2, p3⟩ := actE_parts h
  unfold actW
  cases ha : a.any with
  | true => simp
  | false =>
    have := exprW_len (.inr (p3 ha))
    simp
    omega
theorem actsW_len : ∀ l : List Ac, (∀ a ∈ l, actE a = 0) → (actsW l).length ≤ 323 * l.length
  | [], _ => by simp [actsW]
  | [a], h => by
    have := actW_len (h a (by simp))
    simp only [actsW, List.length_singleton]
    omega
  | a :: b :: r, h => by
    have h1 := actW_len (h a (by simp))
    have ih := actsW_len (b :: r) fun x hx => h x (by simp at hx ⊢; exact .inr hx)
    simp only [actsW, List.length_append, List.length_cons] at ih ⊢
    omega
theorem tnW_len {t : Tn} (h0 : checkT t = 0) : (tnW t).length ≤ 3000 := by
  obtain ⟨p1, p2, p3, p4⟩ := checkT_parts h0
  obtain ⟨a1, a2⟩ := checkA_all p4
  have n3 := exprW_len p3
  have n4 := actsW_len t.acts a2
  have b1 : (if t.event = [] then [((1 : Int), bAuto)] else [(1, bOn), (1, t.event)]).length ≤ 2 := by split <;> simp
  have b2 : (if t.guard = [] then [] else ((3 : Int), [(91 : UInt8)]) :: (exprW t.guard ++ [(3, [93])])).length ≤ 322 := by
    split
    · simp
    · simp only [List.length_cons, List.length_append, List.length_nil]; omega
  have b3 : (if t.acts = [] then [] else ((3 : Int), [(47 : UInt8)]) :: actsW t.acts).length ≤ 2600 := by
    split
    · simp
    · simp only [List.length_cons]; omega
  have b4 : (if t.target = [] then [] else [((3 : Int), bTo), (1, t.target)]).length ≤ 2 := by split <;> simp
  unfold tnW
  simp only [List.length_append, List.length_singleton]
  omega
/-- A transition's text is read as it, to its end. -/
theorem putT_read {t : Tn} (h0 : checkT t = 0) : Ev.tkE (putT t) = 0 ∧ ∃ d : Cu, readT ⟨[], tkL (putT t), 0, 0, 0⟩ = (d, t) ∧ d.e = 0 ∧ d.next.kind = 0 := by
  have h := putT_sc h0
  have hl := putT_len h0
  obtain ⟨t1, t2⟩ := h.tkL (by omega) (by have := tnW_len h0; omega) h.len
  have ha : Ahd (⟨[], tkL (putT t), 0, 0, 0⟩ : Cu) (tnW t ++ [(0, [])]) := ⟨rfl, t2⟩
  obtain ⟨d, d1, d2⟩ := readT_ahd h0 ha
  obtain ⟨e1, e2, _⟩ := d1.cons
  exact ⟨t1, d, d2, e1, e2⟩
end Go.Proofs.YtckonoejmjblfaaGreatDoor.Ev
