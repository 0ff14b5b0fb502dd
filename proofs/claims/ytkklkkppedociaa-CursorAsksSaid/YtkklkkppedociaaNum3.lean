/- Layer 1: the number that digits say. -/
import Derived.Test.YtkklkkppedociaaNum
set_option linter.unusedVariables false
set_option linter.unusedSimpArgs false
set_option maxRecDepth 100000
set_option maxHeartbeats 2000000
namespace Go.Proofs.Ytkklkkppedociaa.Ev
open Go Go.RowKit

/-- What digits say, up to a bound. -/
def scan : List UInt8 → Int → Bool → Option (Int × Bool)
  | [], n, o => some (n, o)
  | c :: r, n, o => if c.toNat < 48 ∨ 57 < c.toNat then none else if 1000000 < n * 10 + (c.toNat - 48 : Int) then scan r 1000000 true else scan r (n * 10 + (c.toNat - 48 : Int)) o
def scanR : Option (Int × Bool) → V
  | none => .tup [I 0, I 2]
  | some (_, true) => .tup [I 0, I 3]
  | some (n, false) => .tup [I n, I 0]
def getR (s : List UInt8) : V := if s = [] ∨ (1 < s.length ∧ s[0]? = some 48) then .tup [I 0, I 2] else scanR (scan s 0 false)

def getS (s : List UInt8) (n : Int) (o : Bool) (i : Nat) (gl : List (List W)) (ro : Bool) : St :=
  st 44 [(4, V.int .i64 n), (5, .c (.w (.d (.bool o)))), (21, .c (.w (.d (.sl (s.map byteD))))), (22, V.int .i64 s.length), (23, V.int .i64 i)] [] [] gl ro

theorem get_bad (call : Caller) (N : Nat) (gl : List (List W)) (ro : Bool) (p r : List UInt8) (c : UInt8) (n : Int) (o : Bool) (hc : c.toNat < 48 ∨ 57 < c.toNat) :
    (evC Try.prog cf 10 call N (bodyOf Try.f10 0) (getS (p ++ c :: r) n o p.length gl ro)).map (hv [2, 3])
      = some (.ret, st 44 [(2, V.int .i64 0), (3, V.int .i64 2)] [] [] gl ro) := by
  have hi : (p.length : Int) < p.length + (r.length + 1) := by omega
  by_cases h1 : c.toNat < 48
  · have h1' : (c.toNat : Int) < 48 := by omega
    simp -implicitDefEqProofs [getS, bodyOf, loopsOf, hv, Try.f10, h1', hi]
  · have h1' : ¬ (c.toNat : Int) < 48 := by omega
    have h2 : (57 : Int) < c.toNat := by omega
    simp -implicitDefEqProofs [getS, bodyOf, loopsOf, hv, Try.f10, h1', h2, hi]

theorem get_round (call : Caller) (N : Nat) (gl : List (List W)) (ro : Bool) (p r : List UInt8) (c : UInt8) (n : Int) (o : Bool) (hc : ¬ (c.toNat < 48 ∨ 57 < c.toNat)) (hn : 0 ≤ n ∧ n ≤ 1000000) (hp : p.length < 4611686018427387904) :
    (evC Try.prog cf 10 call N (bodyOf Try.f10 0) (getS (p ++ c :: r) n o p.length gl ro)).map (hv [4, 5, 21, 22, 23])
      = some (.normal, if 1000000 < n * 10 + (c.toNat - 48 : Int) then getS (p ++ c :: r) 1000000 true (p.length + 1) gl ro else getS (p ++ c :: r) (n * 10 + (c.toNat - 48 : Int)) o (p.length + 1) gl ro) := by
  have hi : (p.length : Int) < p.length + (r.length + 1) := by omega
  have h1 : ¬ (c.toNat : Int) < 48 := by omega
  have h2 : ¬ (57 : Int) < c.toNat := by omega
  have w1 : IntKind.u8.wrap ((c.toNat : Int) - 48) = c.toNat - 48 := u8w _ (by omega)
  have w2 : IntKind.i64.wrap ((c.toNat : Int) - 48) = c.toNat - 48 := i64w _ (by omega)
  have w3 : IntKind.i64.wrap (n * 10) = n * 10 := i64w _ (by omega)
  have w4 : IntKind.i64.wrap (n * 10 + ((c.toNat : Int) - 48)) = n * 10 + ((c.toNat : Int) - 48) := i64w _ (by omega)
  have w5 : IntKind.i64.wrap ((p.length : Int) + 1) = (p.length : Int) + 1 := i64w _ (by omega)
  by_cases h3 : 1000000 < n * 10 + ((c.toNat : Int) - 48)
  · rw [if_pos h3]
    simp -implicitDefEqProofs [getS, bodyOf, loopsOf, hv, Try.f10, h1, h2, hi, w1, w2, w3, w4, w5, h3]
  · rw [if_neg h3]
    simp -implicitDefEqProofs [getS, bodyOf, loopsOf, hv, Try.f10, h1, h2, hi, w1, w2, w3, w4, w5, h3]
theorem get_exit (call : Caller) (N : Nat) (gl : List (List W)) (ro : Bool) (s : List UInt8) (n : Int) (o : Bool) :
    (evC Try.prog cf 10 call N (bodyOf Try.f10 0) (getS s n o s.length gl ro)).map (hv [4, 5, 21, 22, 23])
      = some (.exit 0, getS s n o s.length gl ro) := by
  simp -implicitDefEqProofs [getS, bodyOf, loopsOf, hv, Try.f10]
theorem get_loop (call : Caller) (N : Nat) (gl : List (List W)) (ro : Bool) (s : List UInt8) : ∀ (r p : List UInt8) (n : Int) (o : Bool) (k : Nat) (S : St), s = p ++ r → 0 ≤ n ∧ n ≤ 1000000 → s.length < 4611686018427387904 → r.length < k →
    S.hav [4, 5, 21, 22, 23] = getS s n o p.length gl ro →
    loopA (evC Try.prog cf 10 call N (bodyOf Try.f10 0)) [4, 5, 21, 22, 23] [2, 3] k S
      = some (match scan r n o with
        | none => (.ret, st 44 [(2, V.int .i64 0), (3, V.int .i64 2)] [] [] gl ro)
        | some (m, q) => (.exit 0, getS s m q s.length gl ro)) := by
  intro r
  induction r with
  | nil =>
    intro p n o k S hs hn hl hk hS
    obtain ⟨k, rfl⟩ : ∃ m, k = m + 1 := ⟨k - 1, by simp at hk; omega⟩
    obtain rfl : s = p := by simpa using hs
    refine loop_exit ?_
    rw [hS]
    exact get_exit call N gl ro s n o
  | cons c r ih =>
    intro p n o k S hs hn hl hk hS
    obtain ⟨k, rfl⟩ : ∃ m, k = m + 1 := ⟨k - 1, by simp at hk; omega⟩
    by_cases hc : c.toNat < 48 ∨ 57 < c.toNat
    · simp only [scan, if_pos hc]
      refine loop_ret ?_
      rw [hS, hs]
      exact get_bad call N gl ro p r c n o hc
    · simp only [scan, if_neg hc]
      have hl' : p.length < 4611686018427387904 := by rw [hs] at hl; simp at hl; omega
      have step := get_round call N gl ro p r c n o hc hn hl'
      rw [← hs, ← hS] at step
      obtain ⟨S', hS', e⟩ := loop_on step
      rw [e]
      have hk : r.length < k := by simpa using hk
      by_cases h3 : 1000000 < n * 10 + ((c.toNat : Int) - 48)
      · rw [if_pos h3] at hS' ⊢
        exact ih (p ++ [c]) 1000000 true k S' (by simp [hs]) (by omega) hl hk (by simpa using hS')
      · rw [if_neg h3] at hS' ⊢
        exact ih (p ++ [c]) _ o k S' (by simp [hs]) (by omega) hl hk (by simpa using hS')
theorem Get_ev (s : List UInt8) (hs : s.length < 4611686018427387904) : Gives 10 [T s] (getR s) := by
  refine .intro Try.func10 (by kernel_rfl) ((Evt.ge (s.length + 1)).imp fun k hk ro gl => ?_)
  unfold getR
  have hl : s.length ≤ 9223372036854775807 := by omega
  rcases s with _ | ⟨c, r⟩
  · simp -implicitDefEqProofs [Try.f10]
  · have tail : ∀ S : St, S.hav [4, 5, 21, 22, 23] = getS (c :: r) 0 false 0 gl ro → loopC Try.prog cf 10 (ev k) k (bodyOf Try.f10 0) S = _ := fun S hS => get_loop (ev k) k gl ro (c :: r) (c :: r) [] 0 false k S rfl (by omega) hs (by simp at hk ⊢; omega) hS
    simp only [List.length_cons] at hl
    by_cases h2 : 0 < r.length ∧ c = 48
    · obtain ⟨h1, rfl⟩ := h2
      have h1' : (1 : Int) < r.length + 1 := by omega
      simp -implicitDefEqProofs [Try.f10, h1, h1', hl]
    · have fin : ¬ (c :: r = [] ∨ (1 < (c :: r).length ∧ (c :: r)[0]? = some 48)) := by
        simp
        intro h h'
        exact h2 ⟨h, h'⟩
      rw [if_neg fin]
      have pre : bodyA Try.prog cf 10 (ev k) k Try.f10 [T (c :: r)] ro gl = some (scanR (scan (c :: r) 0 false), gl) := by
        cases r with
        | nil =>
          simp -implicitDefEqProofs [Try.f10, hl]
          refine bind_go (tail _ ?_) ?_
          · simp [getS]
          · cases hsc : scan [c] 0 false with
            | none => simp [scanR]
            | some mq =>
              obtain ⟨m, q⟩ := mq
              cases q <;> simp [scanR, getS]
        | cons c' r =>
          have h48 : ¬ (c.toNat : Int) = 48 := by
            intro e
            exact h2 ⟨by simp, UInt8.toNat_inj.1 (by simp; omega)⟩
          have h1' : (1 : Int) < r.length + 1 + 1 := by omega
          simp only [List.length_cons] at hl
          simp -implicitDefEqProofs [Try.f10, hl, h1', h48]

          refine bind_go (tail _ ?_) ?_
          · simp [getS]
          · cases hsc : scan (c :: c' :: r) 0 false with
            | none => simp [scanR]
            | some mq =>
              obtain ⟨m, q⟩ := mq
              cases q <;> simp [scanR, getS]
      exact pre
end Go.Proofs.Ytkklkkppedociaa.Ev
