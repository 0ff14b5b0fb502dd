/- Layer 1: numbers' texts. -/
import Derived.Test.YtkklkkppedociaaNum
set_option linter.unusedVariables false
set_option linter.unusedSimpArgs false
set_option maxRecDepth 100000
set_option maxHeartbeats 2000000
namespace Go.Proofs.Ytkklkkppedociaa.Ev
open Go Go.RowKit

/-- The digits of a number. -/
def dg (n : Nat) : List UInt8 := if n < 10 then [UInt8.ofNat (48 + n)] else dg (n / 10) ++ [UInt8.ofNat (48 + n % 10)]
termination_by n
theorem dg_lt {n : Nat} (h : n < 10) : dg n = [UInt8.ofNat (48 + n)] := by rw [dg, if_pos h]
theorem dg_ge {n : Nat} (h : ¬ n < 10) : dg n = dg (n / 10) ++ [UInt8.ofNat (48 + n % 10)] := by rw [dg, if_neg h]
theorem dg_len (n k : Nat) : n < 10 ^ (k + 1) → (dg n).length ≤ k + 1 := by
  induction k generalizing n with
  | zero => intro h; rw [dg_lt (by simpa using h)]; simp
  | succ k ih =>
    intro h
    by_cases hn : n < 10
    · rw [dg_lt hn]; simp
    · rw [dg_ge hn]
      have := ih (n / 10) (by rw [Nat.pow_succ] at h; omega)
      simp
      omega

def digS (n at_ : Nat) (cs : List D) (gl : List (List W)) (ro : Bool) : St :=
  st 20 [(0, V.int .u64 n), (3, .c (.w (.box 3 0))), (4, V.int .i64 at_)] [(3, cs.map W.d)] [] gl ro

theorem dig_round (call : Caller) (N : Nat) (gl : List (List W)) (ro : Bool) (n : Nat) (p : List D) (q : D) (acc : List UInt8) (b : UInt8) (hb : (48 : Int) + (n : Int) % 10 = b.toNat) (hp : p.length + acc.length = 19) (hn : n < 18446744073709551616) (h10 : ¬ n < 10) :
    (evC Try.prog cf 41 call N (bodyOf Try.f41 0) (digS n (p.length + 1) (p ++ q :: acc.map u8D) gl ro)).map (hv [0, 3, 4])
      = some (.normal, digS (n / 10) p.length (p ++ (b :: acc).map u8D) gl ro) := by
  have hmod : n % 10 < 10 := Nat.mod_lt _ (by omega)
  have hp1 : (p.length : Int) < 20 := by omega
  have hp2 : p.length + 1 ≤ p.length + (acc.length + 1) := by omega
  have w1 : IntKind.i64.wrap (p.length : Int) = p.length := i64w _ (by omega)
  have w2 : IntKind.u8.wrap ((n : Int) % 10) = (n : Int) % 10 := u8w _ (by omega)
  have w3 : IntKind.u8.wrap (48 + (n : Int) % 10) = b.toNat := by rw [u8w _ (by omega)]; exact hb
  have w4 : IntKind.u64.wrap ((n : Int) / 10) = (n : Int) / 10 := u64w _ (by omega)
  have hp5 : 20 - p.length = acc.length + 1 := by omega
  have hd0 : ¬ (n : Int) / 10 = 0 := by omega
  simp -implicitDefEqProofs [digS, bodyOf, loopsOf, hv, Try.f41, w1, w2, w3, w4, hp1, hp2, hp5, hd0]

theorem dig_last (call : Caller) (N : Nat) (gl : List (List W)) (ro : Bool) (n : Nat) (p : List D) (q : D) (acc : List UInt8) (b : UInt8) (hb : (48 : Int) + n = b.toNat) (hp : p.length + acc.length = 19) (h10 : n < 10) :
    (evC Try.prog cf 41 call N (bodyOf Try.f41 0) (digS n (p.length + 1) (p ++ q :: acc.map u8D) gl ro)).map (hv [2])
      = some (.ret, st 20 [(2, V.str (b :: acc))] [] [] gl ro) := by
  have hp1 : (p.length : Int) < 20 := by omega
  have hp2 : p.length + 1 ≤ p.length + (acc.length + 1) := by omega
  have w1 : IntKind.i64.wrap (p.length : Int) = p.length := i64w _ (by omega)
  have w0 : (n : Int) % 10 = n := by omega
  have w2 : IntKind.u8.wrap (n : Int) = n := u8w _ (by omega)
  have w3 : IntKind.u8.wrap (48 + (n : Int)) = b.toNat := by rw [u8w _ (by omega)]; exact hb
  have hp3 : (p.length : Int) ≤ 20 := by omega
  have hp5 : 20 - p.length = acc.length + 1 := by omega
  have hp7 : p.length + (acc.length + 1) - (p.length + 1) = acc.length := by omega
  have hp6 : 20 ≤ acc.length + 1 + p.length := by omega
  have hd0 : (n : Int) / 10 = 0 := by omega
  have hb' : 48 + (n : Int) = b.toNat := hb
  have e0 : IntKind.u64.wrap 0 = 0 := rfl
  simp -implicitDefEqProofs [digS, bodyOf, loopsOf, hv, Try.f41, w0, w1, w2, w3, hp1, hp2, hp3, hp5, hp6, hp7, hd0, e0]
  trace_state

theorem u8_nat (m : Nat) (h : m < 256) : (m : Int) = (UInt8.ofNat m).toNat := by
  rw [UInt8.toNat_ofNat']; omega

theorem dig_loop (call : Caller) (N : Nat) (gl : List (List W)) (ro : Bool) : ∀ (n : Nat) (p : List D) (acc : List UInt8) (k : Nat) (s : St), n < 18446744073709551616 → (dg n).length ≤ p.length → p.length + acc.length = 20 → n < k →
    s.hav [0, 3, 4] = digS n p.length (p ++ acc.map u8D) gl ro →
    loopA (evC Try.prog cf 41 call N (bodyOf Try.f41 0)) [0, 3, 4] [2] k s = some (.ret, st 20 [(2, V.str (dg n ++ acc))] [] [] gl ro) := by
  intro n
  induction n using Nat.strongRecOn with
  | _ n ih =>
    intro p acc k s hn hl hpa hk hs
    obtain ⟨k, rfl⟩ : ∃ m, k = m + 1 := ⟨k - 1, by omega⟩
    obtain ⟨p, q, rfl⟩ : ∃ p' q, p = p' ++ [q] := by
      rcases List.eq_nil_or_concat p with rfl | ⟨p, q, rfl⟩
      · by_cases h : n < 10
        · rw [dg_lt h] at hl; simp at hl
        · rw [dg_ge h] at hl; simp at hl
      · exact ⟨p, q, by simp⟩
    have hs : s.hav [0, 3, 4] = digS n (p.length + 1) (p ++ q :: acc.map u8D) gl ro := by simpa using hs
    simp only [List.length_append, List.length_singleton] at hl hpa
    by_cases h10 : n < 10
    · refine loop_ret ?_
      rw [hs, dg_lt h10]
      exact dig_last call N gl ro n p q acc _ (by rw [← u8_nat _ (by omega)]; omega) (by omega) h10
    · rw [dg_ge h10] at hl
      simp only [List.length_append, List.length_singleton] at hl
      have step := dig_round call N gl ro n p q acc (UInt8.ofNat (48 + n % 10)) (by rw [← u8_nat _ (by omega)]; omega) (by omega) hn h10
      rw [← hs] at step
      obtain ⟨s', hs', e⟩ := loop_on step
      have h := ih (n / 10) (by omega) p (UInt8.ofNat (48 + n % 10) :: acc) k s' (by omega) (by omega) (by simp; omega) (by omega) hs'
      rw [e, h, dg_ge h10]
      simp
theorem digits_ev (n : Nat) (hn : n < 18446744073709551616) : Gives 41 [.w (.d (.int .u64 n))] (V.str (dg n)) := by
  refine .intro Try.func41 (by decide) ((Evt.ge (n + 1)).imp fun k hk ro gl => ?_)
  have hl := dg_len n 19 (by omega)
  simp -implicitDefEqProofs [Try.f41]
  refine bind_go (dig_loop (ev k) k gl ro n (List.replicate 20 (.int .u8 0)) [] k _ hn (by simpa using hl) (by simp) (by omega) (by simp [digS])) ?_
  simp

/-- A number's text. -/
def num (n : Int) : List UInt8 := if n < 0 then 45 :: dg n.natAbs else dg n.natAbs
theorem Put_ev (n : Int) (h : -9223372036854775808 ≤ n ∧ n ≤ 9223372036854775807) : Gives 12 [I n] (V.str (num n)) := by
  refine .intro Try.func12 (by decide) ((digits_ev n.natAbs (by omega)).imp fun k h1 ro gl => ?_)
  unfold num
  by_cases hn : n < 0
  · have e : IntKind.u64.wrap (-IntKind.u64.wrap n) = (n.natAbs : Int) := by
      simp only [IntKind.wrap, IntKind.signed, IntKind.bits, Bool.false_and, Bool.false_eq_true, if_false]
      omega
    have hl := dg_len n.natAbs 19 (by omega)
    have hl : 1 + (dg n.natAbs).length ≤ 9223372036854775807 := by omega
    have hl' : (dg n.natAbs).length + 1 ≤ 9223372036854775807 := by omega
    have h1 : ev k 41 [C.w (W.d (D.int .u64 (n.natAbs : Int)))] ro gl = _ := h1 ro gl
    rw [← e] at h1
    simp -implicitDefEqProofs [Try.f12, hn, h1, hl, hl']
  · have e : IntKind.u64.wrap n = (n.natAbs : Int) := by rw [u64w _ (by omega)]; omega
    have h1 : ev k 41 [C.w (W.d (D.int .u64 (n.natAbs : Int)))] ro gl = _ := h1 ro gl
    rw [← e] at h1
    simp -implicitDefEqProofs [Try.f12, hn, h1]
theorem dig_at (m : Nat) (h : m < 10) : List.drop m (48 :: List.take m [49, 50, 51, 52, 53, 54, 55, 56, 57]) = [UInt8.ofNat (48 + m)] := by
  rcases m with _|_|_|_|_|_|_|_|_|_|m <;> first | rfl | omega
theorem Text_ev (n : Nat) (h : n < 9223372036854775808) : Gives 42 [I n] (V.str (dg n)) := by
  induction n using Nat.strongRecOn with
  | _ n ih =>
    have hm : n % 10 < 10 := Nat.mod_lt _ (by omega)
    have a1 : IntKind.i64.wrap ((n : Int) % 10) = (n : Int) % 10 := i64w _ (by omega)
    have a2 : IntKind.i64.wrap ((n : Int) % 10 + 1) = (n : Int) % 10 + 1 := i64w _ (by omega)
    have a3 : IntKind.i64.wrap ((n : Int) / 10) = (n : Int) / 10 := i64w _ (by omega)
    have c1 : 0 ≤ (n : Int) % 10 := by omega
    have c2 : 0 ≤ (n : Int) % 10 + 1 := by omega
    have c3 : (n : Int) % 10 + 1 ≤ 10 := by omega
    have c4 : (n : Int) % 10 ≤ 10 := by omega
    have c7 : (n : Int) % 10 ≤ (n : Int) % 10 + 1 := by omega
    have c5 : ((n : Int) % 10).toNat = n % 10 := by omega
    have c6 : ((n : Int) % 10 + 1).toNat = n % 10 + 1 := by omega
    have t := dig_at _ hm
    by_cases h10 : n < 10
    · have m0 : n % 10 = n := by omega
      have m1 : (n : Int) % 10 = n := by omega
      have h10' : (n : Int) < 10 := by omega
      refine .intro Try.func42 (by decide) (.of fun k ro gl => ?_)
      rw [dg_lt h10]
      have t : List.drop (n % 10) (48 :: List.take (n % 10) [49, 50, 51, 52, 53, 54, 55, 56, 57]) = [UInt8.ofNat (48 + n)] := by rw [t, m0]
      simp -implicitDefEqProofs [Try.f42, a1, a2, a3, c1, c2, c3, c4, c5, c6, c7, t, h10']
    · refine .intro Try.func42 (by decide) ((ih (n / 10) (by omega) (by omega)).imp fun k hk ro gl => ?_)
      have hk : ev k 42 [C.w (W.d (D.int .i64 ((n : Int) / 10)))] ro gl = _ := hk ro gl
      have h10' : ¬ (n : Int) < 10 := by omega
      have hl := dg_len (n / 10) 19 (by omega)
      have hl' : (dg (n / 10)).length + 1 ≤ 9223372036854775807 := by omega
      rw [dg_ge h10]
      simp -implicitDefEqProofs [Try.f42, a1, a2, a3, c1, c2, c3, c4, c5, c6, c7, t, h10', hk, hl']
theorem rPut_ev (n : Int) (h : -9223372036854775808 ≤ n ∧ n ≤ 9223372036854775807) : Gives 13 [I n] (V.str (num n)) := by
  unfold num
  by_cases hn : n < 0
  · obtain ⟨m, rfl⟩ : ∃ m : Nat, n = -(m : Int) := ⟨n.natAbs, by omega⟩
    have hm : m % 10 < 10 := Nat.mod_lt _ (by omega)
    have e0 : (-(m : Int)).natAbs = m := by omega
    have n0 : ¬ 0 ≤ -(m : Int) := by omega
    have n1 : ¬ m = 0 := by omega
    have a0 : IntKind.i64.wrap (-((m : Int) % 10)) = -((m : Int) % 10) := i64w _ (by omega)
    have a1 : IntKind.i64.wrap ((m : Int) % 10) = (m : Int) % 10 := i64w _ (by omega)
    have a2 : IntKind.i64.wrap ((m : Int) % 10 + 1) = (m : Int) % 10 + 1 := i64w _ (by omega)
    have a3 : IntKind.i64.wrap ((m : Int) / 10) = (m : Int) / 10 := i64w _ (by omega)
    have a4 : IntKind.i64.wrap (-((m : Int) / 10)) = -((m : Int) / 10) := i64w _ (by omega)
    have c1 : 0 ≤ (m : Int) % 10 := by omega
    have c2 : 0 ≤ (m : Int) % 10 + 1 := by omega
    have c3 : (m : Int) % 10 + 1 ≤ 10 := by omega
    have c4 : (m : Int) % 10 ≤ 10 := by omega
    have c7 : (m : Int) % 10 ≤ (m : Int) % 10 + 1 := by omega
    have c5 : ((m : Int) % 10).toNat = m % 10 := by omega
    have c6 : ((m : Int) % 10 + 1).toNat = m % 10 + 1 := by omega
    have t := dig_at _ hm
    rw [if_pos hn, e0]
    by_cases h10 : m < 10
    · have m0 : m % 10 = m := by omega
      have h10' : (m : Int) < 10 := by omega
      have h10'' : -10 < -(m : Int) := by omega
      refine .intro Try.func13 (by decide) (.of fun k ro gl => ?_)
      rw [dg_lt h10]
      have t : List.drop (m % 10) (48 :: List.take (m % 10) [49, 50, 51, 52, 53, 54, 55, 56, 57]) = [UInt8.ofNat (48 + m)] := by rw [t, m0]
      simp -implicitDefEqProofs [Try.f13, n0, n1, a0, a1, a2, a3, a4, c1, c2, c3, c4, c5, c6, c7, t, h10', h10'']
    · refine .intro Try.func13 (by decide) ((Text_ev (m / 10) (by omega)).imp fun k hk ro gl => ?_)
      have hk : ev k 42 [C.w (W.d (D.int .i64 ((m : Int) / 10)))] ro gl = _ := hk ro gl
      have h10' : ¬ (m : Int) < 10 := by omega
      have h10'' : ¬ -10 < -(m : Int) := by omega
      have hl := dg_len (m / 10) 19 (by omega)
      have hl' : (dg (m / 10)).length + 1 ≤ 9223372036854775807 := by omega
      have hl'' : (dg (m / 10)).length + 1 + 1 ≤ 9223372036854775807 := by omega
      have hl3 : 1 + (dg (m / 10)).length ≤ 9223372036854775807 := by omega
      rw [dg_ge h10]
      simp -implicitDefEqProofs [Try.f13, n0, n1, a0, a1, a2, a3, a4, c1, c2, c3, c4, c5, c6, c7, t, h10', h10'', hk, hl', hl'', hl3]
  · have e : (n.natAbs : Int) = n := by omega
    refine .intro Try.func13 (by decide) ((Text_ev n.natAbs (by omega)).imp fun k hk ro gl => ?_)
    have n0 : 0 ≤ n := by omega
    rw [e] at hk
    simp -implicitDefEqProofs [Try.f13, n0, hn, hk]
end Go.Proofs.Ytkklkkppedociaa.Ev
