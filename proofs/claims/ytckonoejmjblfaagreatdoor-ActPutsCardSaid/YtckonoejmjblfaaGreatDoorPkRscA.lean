/- Layer 3, the document's answer: classes of bytes, gaps, places. -/
import Derived.Test.YtckonoejmjblfaaGreatDoorPkScanB
import Derived.Test.YtckonoejmjblfaaGreatDoorPkNam
set_option linter.unusedVariables false
set_option linter.unusedSimpArgs false
set_option maxRecDepth 100000
set_option maxHeartbeats 4000000
namespace Go.Proofs.YtckonoejmjblfaaGreatDoor.Ev
open Go Go.RowKit

def clsB (c : UInt8) : Nat := if lowC c then 1 else if figC c then 2 else if c.toNat = 95 then 3 else if blank c.toNat then 4 else if c.toNat = 35 then 5 else 0
def clsO : Option UInt8 → Nat
  | none => 0
  | some c => clsB c
theorem class_ev : Evt fun k => ∀ (s : List UInt8) (i : Nat) ro gl, ev k 175 [T s, I i] ro gl = some (V.int .i64 (clsO s[i]?), gl) := by
  refine Evt.up (fun _ g => ∀ (s : List UInt8) (i : Nat) ro gl, g [T s, I i] ro gl = some (V.int .i64 (clsO s[i]?), gl)) Tryz.func175 (by kernel_rfl) (.of fun k s i ro gl => ?_) fun _ _ h => h
  by_cases hi : s.length ≤ i
  · have hi' : (s.length : Int) ≤ i := by omega
    have hn : s[i]? = none := List.getElem?_eq_none hi
    simp -implicitDefEqProofs [Tryz.f175, hi', hn, clsO]
  · have hi' : ¬ (s.length : Int) ≤ i := by omega
    have hl : (i : Int) < s.length := by omega
    obtain ⟨c, hc⟩ : ∃ c, s[i]? = some c := ⟨_, List.getElem?_eq_getElem (by omega)⟩
    have wc : IntKind.i64.wrap (c.toNat : Int) = (c.toNat : Int) := i64w _ (by have := c.toNat_lt; omega)
    rw [hc]
    have key : clsO (some c) = clsB c := rfl
    rw [key]
    unfold clsB
    by_cases h1 : lowC c = true
    · rw [if_pos h1]
      simp only [lowC, Bool.and_eq_true, decide_eq_true_eq] at h1
      have a1 : (97 : Int) ≤ c.toNat := by omega
      have a2 : (c.toNat : Int) ≤ 122 := by omega
      simp -implicitDefEqProofs [Tryz.f175, hi', hl, hc, wc, a1, a2]
    rw [if_neg h1]
    by_cases h2 : figC c = true
    · rw [if_pos h2]
      simp only [figC, Bool.and_eq_true, decide_eq_true_eq] at h2
      have a1 : ¬ (97 : Int) ≤ c.toNat := by omega
      have a3 : (48 : Int) ≤ c.toNat := by omega
      have a4 : (c.toNat : Int) ≤ 57 := by omega
      simp -implicitDefEqProofs [Tryz.f175, hi', hl, hc, wc, a1, a3, a4]
    rw [if_neg h2]
    by_cases h3 : c.toNat = 95
    · rw [if_pos h3]
      have e : (c.toNat : Int) = 95 := by omega
      simp -implicitDefEqProofs [Tryz.f175, hi', hl, hc, wc, e]
    rw [if_neg h3]
    by_cases h4 : blank c.toNat = true
    · rw [if_pos h4]
      simp only [blank, Bool.or_eq_true, decide_eq_true_eq] at h4
      rcases h4 with ((h4 | h4) | h4) | h4
      · have e : (c.toNat : Int) = 32 := by omega
        simp -implicitDefEqProofs [Tryz.f175, hi', hl, hc, wc, e]
      · have e : (c.toNat : Int) = 9 := by omega
        simp -implicitDefEqProofs [Tryz.f175, hi', hl, hc, wc, e]
      · have e : (c.toNat : Int) = 10 := by omega
        simp -implicitDefEqProofs [Tryz.f175, hi', hl, hc, wc, e]
      · have e : (c.toNat : Int) = 13 := by omega
        simp -implicitDefEqProofs [Tryz.f175, hi', hl, hc, wc, e]
    rw [if_neg h4]
    by_cases h5 : c.toNat = 35
    · rw [if_pos h5]
      have e : (c.toNat : Int) = 35 := by omega
      simp -implicitDefEqProofs [Tryz.f175, hi', hl, hc, wc, e]
    rw [if_neg h5]
    simp only [blank, Bool.or_eq_true, decide_eq_true_eq, not_or] at h4
    have e1 : ¬ (c.toNat : Int) = 95 := by omega
    have e2 : ¬ (c.toNat : Int) = 32 := by omega
    have e3 : ¬ (c.toNat : Int) = 9 := by omega
    have e4 : ¬ (c.toNat : Int) = 10 := by omega
    have e5 : ¬ (c.toNat : Int) = 13 := by omega
    have e6 : ¬ (c.toNat : Int) = 35 := by omega
    simp only [lowC, Bool.and_eq_true, decide_eq_true_eq, not_and] at h1
    simp only [figC, Bool.and_eq_true, decide_eq_true_eq, not_and] at h2
    rcases Nat.lt_or_ge c.toNat 48 with h | h
    · have a1 : ¬ (97 : Int) ≤ c.toNat := by omega
      have a3 : ¬ (48 : Int) ≤ c.toNat := by omega
      simp -implicitDefEqProofs [Tryz.f175, hi', hl, hc, wc, a1, a3, e1, e2, e3, e4, e5, e6]
    · have a3 : (48 : Int) ≤ c.toNat := by omega
      have a4 : ¬ (c.toNat : Int) ≤ 57 := by have := h2 h; omega
      rcases Nat.lt_or_ge c.toNat 97 with h' | h'
      · have a1 : ¬ (97 : Int) ≤ c.toNat := by omega
        simp -implicitDefEqProofs [Tryz.f175, hi', hl, hc, wc, a1, a3, a4, e1, e2, e3, e4, e5, e6]
      · have a1 : (97 : Int) ≤ c.toNat := by omega
        have a2 : ¬ (c.toNat : Int) ≤ 122 := by have := h1 h'; omega
        simp -implicitDefEqProofs [Tryz.f175, hi', hl, hc, wc, a1, a2, a3, a4, e1, e2, e3, e4, e5, e6]

/-- How many bytes of a remark are left. -/
def cm (r : List UInt8) : Nat := (r.takeWhile fun b => !decide (b = 10)).length
/-- How many bytes stand ahead of the next token (Bool: in a remark). -/
def sk : Bool → List UInt8 → Nat
  | _, [] => 0
  | false, b :: r => if blank b.toNat then 1 + sk false r else if b = 35 then 1 + sk true r else 0
  | true, b :: r => if b = 10 then 1 + sk false r else 1 + sk true r
theorem sk_true : ∀ r : List UInt8, sk true r = cm r + sk false (r.drop (cm r))
  | [] => rfl
  | b :: r => by
    by_cases h : b = 10
    · subst h
      simp [sk, cm, blank]
    · have ih := sk_true r
      simp only [sk, if_neg h, ih]
      have e : cm (b :: r) = cm r + 1 := by simp [cm, List.takeWhile_cons, h]
      rw [e, List.drop_succ_cons]
      omega
theorem cm_le (r : List UInt8) : cm r ≤ r.length := takeWhile_le _ r
def gpS (s : List UInt8) (i : Nat) (gl : List (List W)) (ro : Nat) : St := st 34 [(0, .c (T s)), (1, V.int .i64 i)] [] [] gl ro
/-- The remark's own loop. -/
theorem cm_loop (call : Caller) (N : Nat) (gl : List (List W)) (ro : Nat) (s : List UInt8) (hs : s.length < 4611686018427387904) (i n : Nat) (hi : i ≤ s.length) (hn : s.length < n) (S : St) (hS : S.hav [0, 1] = gpS s i gl ro) :
    loopA (evC Tryz.prog cf 120 call N (bodyOf Tryz.f120 1)) [0, 1] [] n S = some (.exit 2, gpS s (i + cm (s.drop i)) gl ro) := by
  refine loop_by (keep := [0, 1]) (res := []) (fun i : Nat => gpS s i gl ro) (fun i => i ≤ s.length) (fun i => s.length - i) (fun i => (.exit 2, gpS s (i + cm (s.drop i)) gl ro)) ?_ n i S hi (by omega) hS
  intro i hi
  by_cases he : i = s.length
  · subst he
    refine .inr (.inl ⟨2, gpS s s.length gl ro, ?_, by simp [cm]⟩)
    simp -implicitDefEqProofs [gpS, bodyOf, loopsOf, hv, Tryz.f120]
  · have hlt : i < s.length := by omega
    have hl : (i : Int) < s.length := by omega
    have hd : s.drop i = s[i] :: s.drop (i + 1) := List.drop_eq_getElem_cons hlt
    have hc : s[i]? = some s[i] := List.getElem?_eq_getElem hlt
    generalize s[i] = c at hd hc
    have w : IntKind.i64.wrap ((i : Int) + 1) = (i : Int) + 1 := i64w _ (by omega)
    by_cases h : c = 10
    · refine .inr (.inl ⟨2, gpS s i gl ro, ?_, by rw [hd, h]; simp [cm]⟩)
      subst h
      simp -implicitDefEqProofs [gpS, bodyOf, loopsOf, hv, Tryz.f120, hl, hc]
    · have h' : ¬ (c.toNat : Int) = 10 := fun e => h (UInt8.toNat_inj.1 (by simp; omega))
      refine .inl ⟨i + 1, by omega, by omega, ?_, ?_⟩
      · simp -implicitDefEqProofs [gpS, bodyOf, loopsOf, hv, Tryz.f120, hl, hc, h', w]
      · have e : cm (c :: s.drop (i + 1)) = cm (s.drop (i + 1)) + 1 := by simp [cm, List.takeWhile_cons, h]
        rw [hd, e, show i + (cm (s.drop (i + 1)) + 1) = i + 1 + cm (s.drop (i + 1)) by omega]
end Go.Proofs.YtckonoejmjblfaaGreatDoor.Ev

/- Layer 3, the document's answer: where the next token begins; places. -/
set_option linter.unusedVariables false
set_option linter.unusedSimpArgs false
set_option maxRecDepth 100000
set_option maxHeartbeats 4000000
namespace Go.Proofs.YtckonoejmjblfaaGreatDoor.Ev
open Go Go.RowKit

theorem cls_blank {c : UInt8} (h : blank c.toNat = true) : clsB c = 4 := by
  simp only [blank, Bool.or_eq_true, decide_eq_true_eq] at h
  rcases h with ((h | h) | h) | h <;> simp [clsB, lowC, figC, blank, h]
theorem cls_hash {c : UInt8} (h : c.toNat = 35) : clsB c = 5 := by simp [clsB, lowC, figC, blank, h]
theorem cls_not {c : UInt8} (h1 : ¬ blank c.toNat = true) (h2 : ¬ c.toNat = 35) : clsB c ≠ 4 ∧ clsB c ≠ 5 := by
  unfold clsB
  repeat' split
  all_goals first | exact ⟨by decide, by decide⟩ | contradiction
theorem sk_le : ∀ (b : Bool) (r : List UInt8), sk b r ≤ r.length
  | _, [] => by simp [sk]
  | false, b :: r => by
    have h1 := sk_le false r
    have h2 := sk_le true r
    simp only [sk, List.length_cons]
    split
    · omega
    · split <;> omega
  | true, b :: r => by
    have h1 := sk_le false r
    have h2 := sk_le true r
    simp only [sk, List.length_cons]
    split <;> omega
theorem gp_loop (s : List UInt8) (hs : s.length < 4611686018427387904) (i : Nat) (hi : i ≤ s.length) : Evt fun k => ∀ gl ro S, S.hav [0, 1] = gpS s i gl ro →
    loopA (evC Tryz.prog cf 120 (ev k) k (bodyOf Tryz.f120 0)) [0, 1] [] k S = some (.exit 0, gpS s (i + sk false (s.drop i)) gl ro) := by
  refine (class_ev.and (Evt.ge (s.length + 1))).imp fun k ⟨h, hk⟩ gl ro S hS => ?_
  refine loop_by (keep := [0, 1]) (res := []) (fun i : Nat => gpS s i gl ro) (fun i => i ≤ s.length) (fun i => s.length - i) (fun i => (.exit 0, gpS s (i + sk false (s.drop i)) gl ro)) ?_ k i S hi (by omega) hS
  intro i hi
  have h := h s i
  by_cases he : i = s.length
  · subst he
    have hn : s[s.length]? = none := List.getElem?_eq_none (Nat.le_refl _)
    rw [hn] at h
    refine .inr (.inl ⟨0, gpS s s.length gl ro, ?_, by simp [sk]⟩)
    simp -implicitDefEqProofs [gpS, bodyOf, loopsOf, hv, Tryz.f120, h, clsO]
  · have hlt : i < s.length := by omega
    have hl : (i : Int) < s.length := by omega
    have hd : s.drop i = s[i] :: s.drop (i + 1) := List.drop_eq_getElem_cons hlt
    have hc : s[i]? = some s[i] := List.getElem?_eq_getElem hlt
    rw [hc] at h
    generalize s[i] = c at hd hc h
    have w : IntKind.i64.wrap ((i : Int) + 1) = (i : Int) + 1 := i64w _ (by omega)
    have key : clsO (some c) = clsB c := rfl
    rw [key] at h
    by_cases hb : blank c.toNat = true
    · rw [cls_blank hb] at h
      refine .inl ⟨i + 1, by omega, by omega, ?_, ?_⟩
      · simp -implicitDefEqProofs [gpS, bodyOf, loopsOf, hv, Tryz.f120, h, w]
      · rw [hd, sk, if_pos hb, show i + (1 + sk false (s.drop (i + 1))) = i + 1 + sk false (s.drop (i + 1)) by omega]
    · by_cases h35 : c.toNat = 35
      · rw [cls_hash h35] at h
        have e35 : c = 35 := UInt8.toNat_inj.1 (by simpa using h35)
        have e1 : cm (s.drop i) = cm (s.drop (i + 1)) + 1 := by rw [hd, e35]; simp [cm, List.takeWhile_cons]
        have e2 := cm_le (s.drop i)
        rw [List.length_drop] at e2
        have tail : ∀ S : St, S.hav [0, 1] = gpS s i gl ro → loopC Tryz.prog cf 120 (ev k) k (bodyOf Tryz.f120 1) S = _ := fun S hS => cm_loop (ev k) k gl ro s hs i k hi (by omega) S hS
        refine .inl ⟨i + cm (s.drop i), by omega, by omega, ?_, ?_⟩
        · simp -implicitDefEqProofs [gpS, bodyOf, loopsOf, hv, Tryz.f120, h]
          refine bind_go (tail _ ?_) ?_
          · simp [gpS]
          · simp [gpS, hv]
        · have e3 : sk false (s.drop i) = cm (s.drop i) + sk false (s.drop (i + cm (s.drop i))) := by
            have e4 : sk false (s.drop i) = 1 + sk true (s.drop (i + 1)) := by
              rw [hd, sk, if_neg hb, if_pos e35]
            rw [e4, sk_true, e1, List.drop_drop]
            rw [show i + (cm (s.drop (i + 1)) + 1) = i + 1 + cm (s.drop (i + 1)) by omega]
            omega
          rw [e3, Nat.add_assoc]
      · obtain ⟨n4, n5⟩ := cls_not hb h35
        have e35 : ¬ c = 35 := fun e => h35 (by rw [e]; rfl)
        have m4 : ¬ (clsB c : Int) = 4 := by omega
        have m5 : ¬ (clsB c : Int) = 5 := by omega
        refine .inr (.inl ⟨0, gpS s i gl ro, ?_, by rw [hd, sk, if_neg hb, if_neg e35]; rfl⟩)
        simp -implicitDefEqProofs [gpS, bodyOf, loopsOf, hv, Tryz.f120, h, m4, m5]
theorem Gap_ev (s : List UInt8) (hs : s.length < 4611686018427387904) (i : Nat) (hi : i ≤ s.length) : Gives 120 [T s, I i] (V.int .i64 (i + sk false (s.drop i) : Nat)) := by
  refine .intro Tryz.func120 (by kernel_rfl) ((gp_loop s hs i hi).imp fun k h ro gl => ?_)
  have tail : ∀ S : St, S.hav [0, 1] = gpS s i gl gl.length → loopC Tryz.prog cf 120 (ev k) k (bodyOf Tryz.f120 0) S = _ := fun S hS => h gl gl.length S hS
  simp -implicitDefEqProofs [Tryz.f120]
  refine bind_go (tail _ ?_) ?_
  · simp [gpS]
  · simp [gpS]
theorem adv_append : ∀ (a b : List UInt8) (l c : Int), adv (a ++ b) l c = adv b (adv a l c).1 (adv a l c).2
  | [], b, l, c => rfl
  | x :: a, b, l, c => by
    simp only [List.cons_append, adv]
    split <;> exact adv_append a b _ _
def psS (s : List UInt8) (n i : Nat) (p : Int × Int) (gl : List (List W)) (ro : Nat) : St := st 27 [(0, .c (T s)), (1, V.int .i64 n), (4, .c (.w (.box 4 0))), (5, .c (.w (.box 5 0))), (6, V.int .i64 i)] [(4, [.d (.int .i64 0), .d (.int .i64 0)]), (5, [.d (.int .i64 p.1), .d (.int .i64 p.2)])] [] gl ro
theorem adv_bound : ∀ (a : List UInt8) (l c : Int), 0 ≤ l → 0 ≤ c → l ≤ (adv a l c).1 ∧ (adv a l c).1 ≤ l + a.length ∧ 0 ≤ (adv a l c).2 ∧ (adv a l c).2 ≤ c + a.length + 1
  | [], l, c, h1, h2 => by simp [adv]; omega
  | x :: a, l, c, h1, h2 => by
    simp only [adv]
    split
    · have := adv_bound a (l + 1) 1 (by omega) (by omega)
      simp only [List.length_cons]
      omega
    · have := adv_bound a l (c + 1) (by omega) (by omega)
      simp only [List.length_cons]
      omega
theorem ps_loop (call : Caller) (N : Nat) (gl : List (List W)) (ro : Nat) (s : List UInt8) (hs : s.length < 2305843009213693952) (n : Nat) (hn : n ≤ s.length) (m : Nat) (hm : n < m) (S : St) (hS : S.hav [0, 1, 4, 5, 6] = psS s n 0 (1, 1) gl ro) :
    loopA (evC Tryz.prog cf 122 call N (bodyOf Tryz.f122 0)) [0, 1, 4, 5, 6] [] m S = some (.exit 0, psS s n n (adv (s.take n) 1 1) gl ro) := by
  refine loop_by (keep := [0, 1, 4, 5, 6]) (res := []) (fun i : Nat => psS s n i (adv (s.take i) 1 1) gl ro) (fun i => i ≤ n) (fun i => n - i) (fun _ => (.exit 0, psS s n n (adv (s.take n) 1 1) gl ro)) ?_ m 0 S (by omega) (by omega) hS
  intro i hi
  by_cases he : i = n
  · subst he
    refine .inr (.inl ⟨0, psS s i i (adv (s.take i) 1 1) gl ro, ?_, rfl⟩)
    generalize adv (s.take i) 1 1 = p
    simp -implicitDefEqProofs [psS, bodyOf, loopsOf, hv, Tryz.f122]
  · have hlt : i < s.length := by omega
    have hl : (i : Int) < s.length := by omega
    have hln : i < n := by omega
    have hc : s[i]? = some s[i] := List.getElem?_eq_getElem hlt
    have ht : s.take (i + 1) = s.take i ++ [s[i]] := by rw [List.take_add_one, hc]; rfl
    generalize s[i] = c at hc ht
    have w : IntKind.i64.wrap ((i : Int) + 1) = (i : Int) + 1 := i64w _ (by omega)
    have hb := adv_bound (s.take i) 1 1 (by omega) (by omega)
    have hle : (s.take i).length ≤ s.length := by rw [List.length_take]; omega
    refine .inl ⟨i + 1, by omega, by omega, ?_, rfl⟩
    rw [ht, adv_append]
    generalize adv (s.take i) 1 1 = p at hb ⊢
    obtain ⟨l, q⟩ := p
    simp only at hb ⊢
    have w1 : IntKind.i64.wrap (l + 1) = l + 1 := i64w _ (by omega)
    have w2 : IntKind.i64.wrap (q + 1) = q + 1 := i64w _ (by omega)
    by_cases h : c = 10
    · subst h
      simp -implicitDefEqProofs [psS, bodyOf, loopsOf, hv, Tryz.f122, hl, hln, hc, w, w1, adv]
    · have h' : ¬ (c.toNat : Int) = 10 := fun e => h (UInt8.toNat_inj.1 (by simp; omega))
      simp -implicitDefEqProofs [psS, bodyOf, loopsOf, hv, Tryz.f122, hl, hln, hc, h', w, w2, adv, h]
theorem Pos_ev (s : List UInt8) (hs : s.length < 2305843009213693952) (n : Nat) (hn : n ≤ s.length) : Gives 122 [T s, I n] (.c (.agg [.d (.int .i64 (adv (s.take n) 1 1).1), .d (.int .i64 (adv (s.take n) 1 1).2)])) := by
  refine .intro Tryz.func122 (by kernel_rfl) ((Evt.ge (n + 1)).imp fun k hk ro gl => ?_)
  have tail : ∀ S : St, S.hav [0, 1, 4, 5, 6] = psS s n 0 (1, 1) gl gl.length → loopC Tryz.prog cf 122 (ev k) k (bodyOf Tryz.f122 0) S = _ := fun S hS => ps_loop (ev k) k gl gl.length s hs n hn k (by omega) S hS
  simp -implicitDefEqProofs [Tryz.f122]
  refine bind_go (tail _ ?_) ?_
  · simp [psS]
  · simp [psS]
end Go.Proofs.YtckonoejmjblfaaGreatDoor.Ev

/- Layer 3, the document's answer: the token at a place. -/
set_option linter.unusedVariables false
set_option linter.unusedSimpArgs false
set_option maxRecDepth 100000
set_option maxHeartbeats 4000000
namespace Go.Proofs.YtckonoejmjblfaaGreatDoor.Ev
open Go Go.RowKit

theorem cls_low (c : UInt8) : (clsB c = 1) ↔ lowC c = true := by
  unfold clsB
  by_cases h1 : lowC c = true
  · simp [h1]
  · simp only [h1, if_false]
    repeat' split
    all_goals first | (simp; done) | (exfalso; rename_i h; exact Bool.noConfusion h)
theorem fig_low {c : UInt8} (h : figC c = true) : ¬ lowC c = true := by
  simp only [figC, lowC, Bool.and_eq_true, decide_eq_true_eq] at *
  omega
theorem cls_fig (c : UInt8) : (clsB c = 2) ↔ figC c = true := by
  unfold clsB
  by_cases h2 : figC c = true
  · simp [h2, fig_low h2]
  · by_cases h1 : lowC c = true
    · simp [h1, h2]
    · simp only [h1, h2, if_false]
      repeat' split
      all_goals first | (simp; done) | (exfalso; rename_i h; exact Bool.noConfusion h)
theorem cls_word (c : UInt8) : (1 ≤ clsB c ∧ clsB c ≤ 3) ↔ wordC c = true := by
  unfold clsB wordC
  by_cases h1 : lowC c = true
  · simp [h1]
  · by_cases h2 : figC c = true
    · simp [h1, h2]
    · by_cases h3 : c.toNat = 95
      · simp [h1, h2, h3]
      · simp only [h1, h2, h3, if_false, Bool.false_or, decide_false]
        repeat' split
        all_goals first | (simp; done) | (exfalso; rename_i h; exact Bool.noConfusion h)
def onS (s : List UInt8) (i k : Nat) (gl : List (List W)) (ro : Nat) : St := st 92 [(0, .c (T s)), (1, V.int .i64 i), (7, V.int .i64 k)] [] [] gl ro
theorem onw_loop (s : List UInt8) (hs : s.length < 4611686018427387904) (i : Nat) : Evt fun k => ∀ gl ro j n S, j ≤ s.length → s.length < n → S.hav [0, 1, 7] = onS s i j gl ro →
    loopA (evC Tryz.prog cf 121 (ev k) k (bodyOf Tryz.f121 0)) [0, 1, 7] [4, 5, 6] n S = some (.exit 0, onS s i (j + ((s.drop j).takeWhile wordC).length) gl ro) := by
  refine class_ev.imp fun k h gl ro j n S hj hn hS => ?_
  refine loop_by (keep := [0, 1, 7]) (res := [4, 5, 6]) (fun j : Nat => onS s i j gl ro) (fun j => j ≤ s.length) (fun j => s.length - j) (fun j => (.exit 0, onS s i (j + ((s.drop j).takeWhile wordC).length) gl ro)) ?_ n j S hj (by omega) hS
  intro j hj
  have h := h s j
  by_cases he : j = s.length
  · subst he
    rw [List.getElem?_eq_none (Nat.le_refl _)] at h
    refine .inr (.inl ⟨0, onS s i s.length gl ro, ?_, by simp⟩)
    simp -implicitDefEqProofs [onS, bodyOf, loopsOf, hv, Tryz.f121, h, clsO]
  · have hlt : j < s.length := by omega
    have hd : s.drop j = s[j] :: s.drop (j + 1) := List.drop_eq_getElem_cons hlt
    rw [List.getElem?_eq_getElem hlt] at h
    generalize s[j] = c at hd h
    have w : IntKind.i64.wrap ((j : Int) + 1) = (j : Int) + 1 := i64w _ (by omega)
    rw [show clsO (some c) = clsB c from rfl] at h
    have hw := cls_word c
    by_cases hc : wordC c = true
    · obtain ⟨b1, b2⟩ := hw.2 hc
      have b1' : (1 : Int) ≤ clsB c := by omega
      have b2' : (clsB c : Int) ≤ 3 := by omega
      refine .inl ⟨j + 1, by omega, by omega, ?_, ?_⟩
      · simp -implicitDefEqProofs [onS, bodyOf, loopsOf, hv, Tryz.f121, h, w, b1', b2']
      · rw [hd, List.takeWhile_cons, if_pos hc, List.length_cons, show j + (((s.drop (j + 1)).takeWhile wordC).length + 1) = j + 1 + ((s.drop (j + 1)).takeWhile wordC).length by omega]
    · refine .inr (.inl ⟨0, onS s i j gl ro, ?_, by rw [hd, List.takeWhile_cons, if_neg hc]; rfl⟩)
      by_cases b1 : 1 ≤ clsB c
      · have b1' : (1 : Int) ≤ clsB c := by omega
        have b2' : ¬ (clsB c : Int) ≤ 3 := by
          intro h'
          exact hc (hw.1 ⟨b1, by omega⟩)
        simp -implicitDefEqProofs [onS, bodyOf, loopsOf, hv, Tryz.f121, h, b1', b2']
      · have b1' : ¬ (1 : Int) ≤ clsB c := by omega
        simp -implicitDefEqProofs [onS, bodyOf, loopsOf, hv, Tryz.f121, h, b1']
theorem onf_loop (s : List UInt8) (hs : s.length < 4611686018427387904) (i : Nat) : Evt fun k => ∀ gl ro j n S, j ≤ s.length → s.length < n → S.hav [0, 1, 7] = onS s i j gl ro →
    loopA (evC Tryz.prog cf 121 (ev k) k (bodyOf Tryz.f121 1)) [0, 1, 7] [4, 5, 6] n S = some (.exit 2, onS s i (j + ((s.drop j).takeWhile figC).length) gl ro) := by
  refine class_ev.imp fun k h gl ro j n S hj hn hS => ?_
  refine loop_by (keep := [0, 1, 7]) (res := [4, 5, 6]) (fun j : Nat => onS s i j gl ro) (fun j => j ≤ s.length) (fun j => s.length - j) (fun j => (.exit 2, onS s i (j + ((s.drop j).takeWhile figC).length) gl ro)) ?_ n j S hj (by omega) hS
  intro j hj
  have h := h s j
  by_cases he : j = s.length
  · subst he
    rw [List.getElem?_eq_none (Nat.le_refl _)] at h
    refine .inr (.inl ⟨2, onS s i s.length gl ro, ?_, by simp⟩)
    simp -implicitDefEqProofs [onS, bodyOf, loopsOf, hv, Tryz.f121, h, clsO]
  · have hlt : j < s.length := by omega
    have hd : s.drop j = s[j] :: s.drop (j + 1) := List.drop_eq_getElem_cons hlt
    rw [List.getElem?_eq_getElem hlt] at h
    generalize s[j] = c at hd h
    have w : IntKind.i64.wrap ((j : Int) + 1) = (j : Int) + 1 := i64w _ (by omega)
    rw [show clsO (some c) = clsB c from rfl] at h
    have hw := cls_fig c
    by_cases hc : figC c = true
    · have b1' : (clsB c : Int) = 2 := by have := hw.2 hc; omega
      refine .inl ⟨j + 1, by omega, by omega, ?_, ?_⟩
      · simp -implicitDefEqProofs [onS, bodyOf, loopsOf, hv, Tryz.f121, h, w, b1']
      · rw [hd, List.takeWhile_cons, if_pos hc, List.length_cons, show j + (((s.drop (j + 1)).takeWhile figC).length + 1) = j + 1 + ((s.drop (j + 1)).takeWhile figC).length by omega]
    · refine .inr (.inl ⟨2, onS s i j gl ro, ?_, by rw [hd, List.takeWhile_cons, if_neg hc]; rfl⟩)
      have b1' : ¬ (clsB c : Int) = 2 := fun e => hc (hw.1 (by omega))
      simp -implicitDefEqProofs [onS, bodyOf, loopsOf, hv, Tryz.f121, h, b1']
def mk22 : List (List UInt8) := marks2 ++ marks1.map fun b => [b]
theorem Marks_ev : Gives 176 [] (.c (L (mk22.map sD))) := by
  refine .intro Tryz.func176 (by kernel_rfl) (.of fun k ro gl => ?_)
  simp -implicitDefEqProofs [Tryz.f176, mk22, marks2, marks1]
theorem pre_one (c b : UInt8) (r : List UInt8) : pre (c :: r) [b] = decide (c = b) := by
  simp [pre]
theorem find_one (c : UInt8) (r : List UInt8) : ∀ l : List UInt8, ((l.map fun b => [b]).find? (pre (c :: r))) = if 0 ≤ Lib.indexByte l c then some [c] else none
  | [] => by simp [Lib.indexByte]
  | b :: l => by
    have ih := find_one c r l
    have hg := Lib.indexByte_ge l c
    rw [List.map_cons, List.find?_cons, pre_one, Lib.indexByte]
    by_cases h : c = b
    · subst h; simp
    · have h' : (b == c) = false := by simpa using Ne.symm h
      simp only [h, decide_false, ih, h', Bool.false_eq_true, if_false]
      by_cases hi : Lib.indexByte l c = -1
      · simp [hi]
      · have : (Lib.indexByte l c == -1) = false := by simpa using hi
        simp only [this, Bool.false_eq_true, if_false]
        rw [if_pos (by omega), if_pos (by omega)]
theorem find_mark (c : UInt8) (r : List UInt8) : (mk22.find? (pre (c :: r))).map List.length = if markN (c :: r) = 0 then none else some (markN (c :: r)) := by
  unfold mk22 markN
  rw [List.find?_append, find_one]
  cases hf : marks2.find? (pre (c :: r)) with
  | some m =>
    have hm := List.mem_of_find?_eq_some hf
    have hp := List.find?_some hf
    have hl : m.length = 2 := by
      simp only [marks2, List.mem_cons, List.not_mem_nil, or_false] at hm
      rcases hm with rfl | rfl | rfl | rfl | rfl | rfl | rfl <;> rfl
    have ha : hasM2 (c :: r) = true := List.any_eq_true.2 ⟨m, hm, hp⟩
    simp [ha, hl]
  | none =>
    have ha : hasM2 (c :: r) = false := by
      rw [List.find?_eq_none] at hf
      cases h : hasM2 (c :: r) with
      | false => rfl
      | true =>
        obtain ⟨m, hm, hp⟩ := List.any_eq_true.1 h
        exact absurd hp (hf m hm)
    simp only [ha, List.headD_cons, Option.none_or]
    by_cases hi : 0 ≤ Lib.indexByte marks1 c <;> simp [hi]
end Go.Proofs.YtckonoejmjblfaaGreatDoor.Ev

/- Layer 3, the document's answer: the token at a place, whole. -/
set_option linter.unusedVariables false
set_option linter.unusedSimpArgs false
set_option maxRecDepth 100000
set_option maxHeartbeats 4000000
namespace Go.Proofs.YtckonoejmjblfaaGreatDoor.Ev
open Go Go.RowKit

def omS (s : List UInt8) (i j : Nat) (gl : List (List W)) (ro : Nat) : St := st 92 [(0, .c (T s)), (1, V.int .i64 i), (8, .c (L (mk22.map sD))), (9, V.int .i64 j)] [] [] gl ro
theorem mk22_len {j : Nat} {m : List UInt8} (h : mk22[j]? = some m) : 1 ≤ m.length ∧ m.length ≤ 2 := by
  have hm := List.mem_of_getElem? h
  simp only [mk22, List.mem_append, List.mem_map] at hm
  rcases hm with hm | ⟨b, _, rfl⟩
  · simp only [marks2, List.mem_cons, List.not_mem_nil, or_false] at hm
    rcases hm with rfl | rfl | rfl | rfl | rfl | rfl | rfl <;> simp
  · simp
theorem om_round (call : Caller) (N : Nat) (gl : List (List W)) (ro : Nat) (s : List UInt8) (hs : s.length < 4611686018427387904) (i j : Nat) (hi : i < s.length) (m : List UInt8) (hm : mk22[j]? = some m) :
    (pre (s.drop i) m = true → (evC Tryz.prog cf 121 call N (bodyOf Tryz.f121 2) (omS s i j gl ro)).map (hv [4, 5, 6]) = some (.ret, st 92 [(4, V.int .i64 3), (5, V.int .i64 ((i : Int) + m.length)), (6, V.int .i64 0)] [] [] gl ro)) ∧
    (pre (s.drop i) m = false → (evC Tryz.prog cf 121 call N (bodyOf Tryz.f121 2) (omS s i j gl ro)).map (hv [0, 1, 8, 9]) = some (.normal, omS s i (j + 1) gl ro)) := by
  obtain ⟨l1, l2⟩ := mk22_len hm
  have hj : j < mk22.length := (List.getElem?_eq_some_iff.1 hm).1
  have hme : mk22[j] = m := (List.getElem?_eq_some_iff.1 hm).2
  have hj22 : mk22.length = 22 := rfl
  have hj' : (j : Int) < mk22.length := by omega
  have w1 : IntKind.i64.wrap ((i : Int) + m.length) = (i : Int) + m.length := i64w _ (by omega)
  have w2 : IntKind.i64.wrap ((j : Int) + 1) = (j : Int) + 1 := i64w _ (by omega)
  have ht : ((i : Int) + m.length).toNat = i + m.length := by omega
  have hd : (s.drop i).length = s.length - i := List.length_drop
  unfold pre
  rw [hd]
  by_cases hA : m.length ≤ s.length - i
  · have hA' : (i : Int) + m.length ≤ s.length := by omega
    have g1 : (0 : Int) ≤ (i : Int) + m.length := by omega
    have g2 : (i : Int) ≤ (i : Int) + m.length := by omega
    by_cases hq : (s.drop i).take m.length = m
    · refine ⟨fun _ => ?_, fun h => by simp [hA, hq] at h⟩
      simp -implicitDefEqProofs [omS, bodyOf, loopsOf, hv, Tryz.f121, hj, hj', hme, w1, w2, ht, hA', g1, g2, hq, List.drop_take]
    · refine ⟨fun h => by simp [hA, hq] at h, fun _ => ?_⟩
      simp -implicitDefEqProofs [omS, bodyOf, loopsOf, hv, Tryz.f121, hj, hj', hme, w1, w2, ht, hA', g1, g2, hq, List.drop_take]
  · have hA' : ¬ (i : Int) + m.length ≤ s.length := by omega
    refine ⟨fun h => by simp [hA] at h, fun _ => ?_⟩
    simp -implicitDefEqProofs [omS, bodyOf, loopsOf, hv, Tryz.f121, hj, hj', hme, w1, w2, hA']
theorem om_loop (call : Caller) (N : Nat) (gl : List (List W)) (ro : Nat) (s : List UInt8) (hs : s.length < 4611686018427387904) (i : Nat) (hi : i < s.length) (n : Nat) (hn : 22 < n) (S : St) (hS : S.hav [0, 1, 8, 9] = omS s i 0 gl ro) :
    loopA (evC Tryz.prog cf 121 call N (bodyOf Tryz.f121 2)) [0, 1, 8, 9] [4, 5, 6] n S = some (match mk22.find? (pre (s.drop i)) with
      | some m => (.ret, st 92 [(4, V.int .i64 3), (5, V.int .i64 ((i : Int) + m.length)), (6, V.int .i64 0)] [] [] gl ro)
      | none => (.exit 4, omS s i 22 gl ro)) := by
  refine loop_by (keep := [0, 1, 8, 9]) (res := [4, 5, 6]) (fun j : Nat => omS s i j gl ro) (fun j => j ≤ 22) (fun j => 22 - j) (fun j => match (mk22.drop j).find? (pre (s.drop i)) with
      | some m => (.ret, st 92 [(4, V.int .i64 3), (5, V.int .i64 ((i : Int) + m.length)), (6, V.int .i64 0)] [] [] gl ro)
      | none => (.exit 4, omS s i 22 gl ro)) ?_ n 0 S (by omega) (by omega) hS
  intro j hj
  have hj22 : mk22.length = 22 := rfl
  by_cases he : j = 22
  · subst he
    refine .inr (.inl ⟨4, omS s i 22 gl ro, ?_, rfl⟩)
    have g : ¬ (22 : Int) < mk22.length := by omega
    simp -implicitDefEqProofs [omS, bodyOf, loopsOf, hv, Tryz.f121, g]
    try simp [hj22]
  · have hlt : j < mk22.length := by omega
    have hm : mk22[j]? = some mk22[j] := List.getElem?_eq_getElem hlt
    have hd : mk22.drop j = mk22[j] :: mk22.drop (j + 1) := List.drop_eq_getElem_cons hlt
    generalize mk22[j] = m at hm hd
    obtain ⟨k1, k2⟩ := om_round call N gl ro s hs i j hi m hm
    cases hp : pre (s.drop i) m with
    | true => exact .inr (.inr ⟨_, k1 hp, by rw [hd, List.find?_cons, hp]⟩)
    | false => exact .inl ⟨j + 1, by omega, by omega, k2 hp, by rw [hd, List.find?_cons, hp]⟩
theorem takeWhile_stop {p : UInt8 → Bool} : ∀ (l : List UInt8) (b : UInt8), l[(l.takeWhile p).length]? = some b → p b = false
  | [], b, h => by simp at h
  | a :: l, b, h => by
    rw [List.takeWhile_cons] at h
    cases ha : p a with
    | true =>
      rw [ha, if_pos rfl, List.length_cons, List.getElem?_cons_succ] at h
      exact takeWhile_stop l b h
    | false =>
      rw [ha] at h
      simp at h
      rw [← h]
      exact ha
theorem One_ev (s : List UInt8) (hs : s.length < 4611686018427387904) (i : Nat) (hi : i < s.length) : Gives 121 [T s, I i]
    (.tup [I (nextT (s.drop i)).1, I (if (nextT (s.drop i)).2.2 = 0 then (i : Int) + (nextT (s.drop i)).2.1 else 0), I (nextT (s.drop i)).2.2]) := by
  refine .intro Tryz.func121 (by kernel_rfl) (class_ev.and ((onw_loop s hs i).and ((onf_loop s hs i).and (Marks_ev.and (Evt.ge (s.length + 24))))) |>.imp fun k ⟨h, q1, q2, h4, hk⟩ ro gl => ?_)
  have hd : s.drop i = s[i] :: s.drop (i + 1) := List.drop_eq_getElem_cons hi
  have hci : s[i]? = some s[i] := List.getElem?_eq_getElem hi
  have h0 := h s i
  rw [hci] at h0
  generalize s[i] = c at hd hci h0
  rw [show clsO (some c) = clsB c from rfl] at h0
  have tail1 : ∀ S : St, S.hav [0, 1, 7] = onS s i i gl gl.length → loopC Tryz.prog cf 121 (ev k) k (bodyOf Tryz.f121 0) S = _ := fun S hS => q1 gl gl.length i k S (by omega) (by omega) hS
  have tail2 : ∀ S : St, S.hav [0, 1, 7] = onS s i i gl gl.length → loopC Tryz.prog cf 121 (ev k) k (bodyOf Tryz.f121 1) S = _ := fun S hS => q2 gl gl.length i k S (by omega) (by omega) hS
  have tail3 : ∀ S : St, S.hav [0, 1, 8, 9] = omS s i 0 gl gl.length → loopC Tryz.prog cf 121 (ev k) k (bodyOf Tryz.f121 2) S = _ := fun S hS => om_loop (ev k) k gl gl.length s hs i hi k (by omega) S hS
  have t1 := takeWhile_le wordC (s.drop i)
  have t2 := takeWhile_le figC (s.drop i)
  have hlen : (s.drop i).length = s.length - i := List.length_drop
  have ec1 : (clsB c : Int) = 1 ↔ lowC c = true := by rw [← cls_low]; omega
  have ec2 : (clsB c : Int) = 2 ↔ figC c = true := by rw [← cls_fig]; omega
  have hf := find_mark c (s.drop (i + 1))
  rw [← hd] at hf
  unfold nextT
  rw [show (s.drop i).headD 0 = c by rw [hd]; rfl]
  obtain ⟨n1, hn1⟩ : ∃ n, ((s.drop i).takeWhile wordC).length = n := ⟨_, rfl⟩
  obtain ⟨n2, hn2⟩ : ∃ n, ((s.drop i).takeWhile figC).length = n := ⟨_, rfl⟩
  simp only [hn1, hn2] at tail1 tail2 t1 t2 ⊢
  by_cases hl : lowC c = true
  · have e1 := ec1.2 hl
    have g1 : (i : Int) + n1 - i = n1 := by omega
    have w1 : IntKind.i64.wrap (n1 : Int) = n1 := i64w _ (by omega)
    simp only [hl, if_true]
    simp -implicitDefEqProofs [Tryz.f121, h0, e1]
    refine bind_go (tail1 _ ?_) ?_
    · simp [onS]
    · by_cases hn : 12 < n1
      · have hn' : (12 : Int) < n1 := by omega
        simp -implicitDefEqProofs [onS, g1, w1, hn, hn']
      · have hn' : ¬ (12 : Int) < n1 := by omega
        simp -implicitDefEqProofs [onS, g1, w1, hn, hn']
  · have e1 : ¬ (clsB c : Int) = 1 := fun e => hl (ec1.1 e)
    by_cases hg : figC c = true
    · have e2 := ec2.2 hg
      have g1 : (i : Int) + n2 - i = n2 := by omega
      have w1 : IntKind.i64.wrap (n2 : Int) = n2 := i64w _ (by omega)
      simp only [hl, hg, if_true, if_false]
      have e2' : ¬ (clsB c : Int) = 1 := e1
      have hh : ((s.drop i).drop n2).head? = s[i + n2]? := by rw [List.head?_drop, List.getElem?_drop]
      rw [hh]
      have h2 : ∀ ro gl, ev k 175 [T s, I ((i : Int) + n2)] ro gl = some (V.int .i64 (clsO s[i + n2]?), gl) := fun ro gl => by
        have := h s (i + n2) ro gl
        simpa using this
      have hstop : ∀ b, s[i + n2]? = some b → figC b = false := fun b hb => takeWhile_stop (s.drop i) b (by rw [hn2, List.getElem?_drop]; exact hb)
      have fin : ∀ w : Bool, (s[i + n2]?.any wordC) = w → ((clsO s[i + n2]? : Int) = 1 ∨ (¬ (clsO s[i + n2]? : Int) = 1 ∧ (clsO s[i + n2]? : Int) = 3)) ∧ w = true ∨ (¬ (clsO s[i + n2]? : Int) = 1 ∧ ¬ (clsO s[i + n2]? : Int) = 3) ∧ w = false := by
        intro w hw
        cases hb : s[i + n2]? with
        | none =>
          rw [hb] at hw
          exact .inr ⟨by simp [clsO], by simpa using hw.symm⟩
        | some b =>
          rw [hb] at hw
          have nf := hstop b hb
          have q1 := cls_word b
          have q2 := cls_fig b
          rw [nf] at q2
          simp only [Option.any_some] at hw
          rw [hw] at q1
          show ((clsB b : Int) = 1 ∨ (¬ (clsB b : Int) = 1 ∧ (clsB b : Int) = 3)) ∧ w = true ∨ (¬ (clsB b : Int) = 1 ∧ ¬ (clsB b : Int) = 3) ∧ w = false
          cases w with
          | true =>
            have := q1.2 rfl
            have n2 : ¬ clsB b = 2 := fun e => by simpa using q2.1 e
            left
            refine ⟨?_, rfl⟩
            omega
          | false =>
            right
            refine ⟨?_, rfl⟩
            have n1 : ¬ (1 ≤ clsB b ∧ clsB b ≤ 3) := fun e => by simpa using q1.1 e
            omega
      generalize hcw : (s[i + n2]?.any wordC) = w at fin ⊢
      generalize (clsO s[i + n2]? : Nat) = v at h2 fin
      simp -implicitDefEqProofs [Tryz.f121, h0, e1, e2]
      refine bind_go (tail2 _ ?_) ?_
      · simp [onS]
      · rcases fin w rfl with ⟨hv, rfl⟩ | ⟨⟨v1, v3⟩, rfl⟩
        · rcases hv with v1 | ⟨v1, v3⟩
          · simp -implicitDefEqProofs [onS, h2, v1]
          · simp -implicitDefEqProofs [onS, h2, v1, v3]
        · by_cases hn : 9 < n2
          · have hn' : (9 : Int) < n2 := by omega
            simp -implicitDefEqProofs [onS, h2, v1, v3, g1, w1, hn, hn']
          · have hn' : ¬ (9 : Int) < n2 := by omega
            simp -implicitDefEqProofs [onS, h2, v1, v3, g1, w1, hn, hn']
    · have e2 : ¬ (clsB c : Int) = 2 := fun e => hg (ec2.1 e)
      simp only [hl, hg, if_false]
      simp -implicitDefEqProofs [Tryz.f121, h0, e1, e2, h4]
      refine bind_go (tail3 _ ?_) ?_
      · simp [omS]
      · cases hfm : mk22.find? (pre (s.drop i)) with
        | none =>
          rw [hfm] at hf
          have h0 : markN (s.drop i) = 0 := by
            rcases Nat.eq_zero_or_pos (markN (s.drop i)) with h | h
            · exact h
            · rw [if_neg (by omega)] at hf; cases hf
          simp -implicitDefEqProofs [omS, h0]
        | some m =>
          rw [hfm] at hf
          have h0 : ¬ markN (s.drop i) = 0 := by
            intro e
            rw [if_pos e] at hf
            cases hf
          rw [if_neg h0] at hf
          have hm : m.length = markN (s.drop i) := by simpa using hf
          simp -implicitDefEqProofs [h0, hm]
end Go.Proofs.YtckonoejmjblfaaGreatDoor.Ev
