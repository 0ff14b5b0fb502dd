/- Layer 1: the number that digits say, by the document. -/
import Derived.Test.YtkklkkppedociaaNum3
set_option linter.unusedVariables false
set_option linter.unusedSimpArgs false
set_option maxRecDepth 100000
set_option maxHeartbeats 2000000
namespace Go.Proofs.Ytkklkkppedociaa.Ev
open Go Go.RowKit

def rstep (m : Int) (c : UInt8) : Int := if m ≤ 1000000 then 10 * m + c.toNat - 48 else m
def rscan : List UInt8 → Int → Option Int
  | [], m => some m
  | c :: r, m => if c.toNat < 48 ∨ 57 < c.toNat then none else rscan r (rstep m c)
def rgetS (s : List UInt8) (n : Int) (i : Nat) (gl : List (List W)) (ro : Bool) : St :=
  st 47 [(0, .c (T s)), (4, V.int .i64 n), (5, V.int .i64 i)] [] [] gl ro

theorem rget_bad (call : Caller) (N : Nat) (gl : List (List W)) (ro : Bool) (p r : List UInt8) (c : UInt8) (n : Int) (hc : c.toNat < 48 ∨ 57 < c.toNat) :
    (evC Try.prog cf 11 call N (bodyOf Try.f11 0) (rgetS (p ++ c :: r) n p.length gl ro)).map (hv [2, 3])
      = some (.ret, st 47 [(2, V.int .i64 0), (3, V.int .i64 2)] [] [] gl ro) := by
  have hi : (p.length : Int) < p.length + (r.length + 1) := by omega
  by_cases h1 : c.toNat < 48
  · have h1' : (c.toNat : Int) < 48 := by omega
    simp -implicitDefEqProofs [rgetS, bodyOf, loopsOf, hv, Try.f11, h1', hi]
  · have h1' : ¬ (c.toNat : Int) < 48 := by omega
    have h2 : (57 : Int) < c.toNat := by omega
    simp -implicitDefEqProofs [rgetS, bodyOf, loopsOf, hv, Try.f11, h1', h2, hi]
theorem rget_zero (call : Caller) (N : Nat) (gl : List (List W)) (ro : Bool) (r : List UInt8) (c : UInt8) (n : Int) (hc : ¬ (c.toNat < 48 ∨ 57 < c.toNat)) :
    (evC Try.prog cf 11 call N (bodyOf Try.f11 0) (rgetS (48 :: c :: r) n 1 gl ro)).map (hv [2, 3])
      = some (.ret, st 47 [(2, V.int .i64 0), (3, V.int .i64 2)] [] [] gl ro) := by
  have hi : (1 : Int) < r.length + 1 + 1 := by omega
  have h1' : ¬ (c.toNat : Int) < 48 := by omega
  have h2 : ¬ (57 : Int) < c.toNat := by omega
  simp -implicitDefEqProofs [rgetS, bodyOf, loopsOf, hv, Try.f11, h1', h2, hi]
theorem rget_round (call : Caller) (N : Nat) (gl : List (List W)) (ro : Bool) (p r : List UInt8) (c : UInt8) (n : Int) (hc : ¬ (c.toNat < 48 ∨ 57 < c.toNat)) (hn : 0 ≤ n ∧ n ≤ 100000000) (hp : p.length < 4611686018427387904) (hz : p ≠ [48]) :
    (evC Try.prog cf 11 call N (bodyOf Try.f11 0) (rgetS (p ++ c :: r) n p.length gl ro)).map (hv [0, 4, 5])
      = some (.normal, rgetS (p ++ c :: r) (rstep n c) (p.length + 1) gl ro) := by
  have hi : (p.length : Int) < p.length + (r.length + 1) := by omega
  have h1 : ¬ (c.toNat : Int) < 48 := by omega
  have h2 : ¬ (57 : Int) < c.toNat := by omega
  have w1 : IntKind.i64.wrap (10 * n) = 10 * n := i64w _ (by omega)
  have w2 : IntKind.i64.wrap (c.toNat : Int) = c.toNat := i64w _ (by omega)
  have w3 : IntKind.i64.wrap (10 * n + (c.toNat : Int)) = 10 * n + c.toNat := i64w _ (by omega)
  have w4 : IntKind.i64.wrap (10 * n + (c.toNat : Int) - 48) = 10 * n + c.toNat - 48 := i64w _ (by omega)
  have w5 : IntKind.i64.wrap ((p.length : Int) + 1) = (p.length : Int) + 1 := i64w _ (by omega)
  unfold rstep
  by_cases hp1 : p.length = 1
  · obtain ⟨c0, rfl⟩ := List.length_eq_one_iff.1 hp1
    have h48 : ¬ (c0.toNat : Int) = 48 := by
      intro e
      exact hz (by rw [UInt8.toNat_inj.1 (show c0.toNat = (48 : UInt8).toNat by simp; omega)])
    have hi : (1 : Int) < r.length + 1 + 1 := by omega
    have e0 : IntKind.i64.wrap 2 = 2 := rfl
    by_cases h3 : n ≤ 1000000 <;> simp -implicitDefEqProofs [rgetS, bodyOf, loopsOf, hv, Try.f11, h1, h2, hi, w1, w2, w3, w4, w5, h3, h48, e0]
  · have hp1' : ¬ (p.length : Int) = 1 := by omega
    by_cases h3 : n ≤ 1000000 <;> simp -implicitDefEqProofs [rgetS, bodyOf, loopsOf, hv, Try.f11, h1, h2, hi, w1, w2, w3, w4, w5, h3, hp1, hp1']
theorem rget_exit (call : Caller) (N : Nat) (gl : List (List W)) (ro : Bool) (s : List UInt8) (n : Int) :
    (evC Try.prog cf 11 call N (bodyOf Try.f11 0) (rgetS s n s.length gl ro)).map (hv [0, 4, 5])
      = some (.exit 0, rgetS s n s.length gl ro) := by
  simp -implicitDefEqProofs [rgetS, bodyOf, loopsOf, hv, Try.f11]
theorem rstep_le {n : Int} {c : UInt8} (hc : ¬ (c.toNat < 48 ∨ 57 < c.toNat)) (hn : 0 ≤ n ∧ n ≤ 100000000) : 0 ≤ rstep n c ∧ rstep n c ≤ 100000000 := by
  unfold rstep
  split <;> omega
theorem rget_loop (call : Caller) (N : Nat) (gl : List (List W)) (ro : Bool) (s : List UInt8) (hz : ∀ c r, s ≠ 48 :: c :: r) : ∀ (r p : List UInt8) (n : Int) (k : Nat) (S : St), s = p ++ r → 0 ≤ n ∧ n ≤ 100000000 → s.length < 4611686018427387904 → r.length < k →
    S.hav [0, 4, 5] = rgetS s n p.length gl ro →
    loopA (evC Try.prog cf 11 call N (bodyOf Try.f11 0)) [0, 4, 5] [2, 3] k S
      = some (match rscan r n with
        | none => (.ret, st 47 [(2, V.int .i64 0), (3, V.int .i64 2)] [] [] gl ro)
        | some m => (.exit 0, rgetS s m s.length gl ro)) := by
  intro r
  induction r with
  | nil =>
    intro p n k S hs hn hl hk hS
    obtain ⟨k, rfl⟩ : ∃ m, k = m + 1 := ⟨k - 1, by simp at hk; omega⟩
    obtain rfl : s = p := by simpa using hs
    refine loop_exit ?_
    rw [hS]
    exact rget_exit call N gl ro s n
  | cons c r ih =>
    intro p n k S hs hn hl hk hS
    obtain ⟨k, rfl⟩ : ∃ m, k = m + 1 := ⟨k - 1, by simp at hk; omega⟩
    by_cases hc : c.toNat < 48 ∨ 57 < c.toNat
    · simp only [rscan, if_pos hc]
      refine loop_ret ?_
      rw [hS, hs]
      exact rget_bad call N gl ro p r c n hc
    · simp only [rscan, if_neg hc]
      have hl' : p.length < 4611686018427387904 := by rw [hs] at hl; simp at hl; omega
      have step := rget_round call N gl ro p r c n hc hn hl' (fun e => hz c r (by rw [hs, e]; rfl))
      rw [← hs, ← hS] at step
      obtain ⟨S', hS', e⟩ := loop_on step
      rw [e]
      exact ih (p ++ [c]) _ k S' (by simp [hs]) (rstep_le hc hn) hl (by simpa using hk) (by simpa using hS')
def rres : Option Int → V
  | none => .tup [I 0, I 2]
  | some m => if 1000000 < m then .tup [I 0, I 3] else .tup [I m, I 0]
theorem scan_rscan : ∀ (r : List UInt8) (n m : Int) (o : Bool), 0 ≤ n → (o = false ∧ m = n ∧ n ≤ 1000000) ∨ (o = true ∧ 1000000 < m ∧ n = 1000000) → scanR (scan r n o) = rres (rscan r m)
  | [], n, m, o, hn, h => by
    rcases h with ⟨rfl, rfl, h⟩ | ⟨rfl, h, rfl⟩
    · simp only [scan, rscan, scanR, rres]; rw [if_neg (by omega)]
    · simp only [scan, rscan, scanR, rres]; rw [if_pos h]
  | c :: r, n, m, o, hn, h => by
    simp only [scan, rscan]
    by_cases hc : c.toNat < 48 ∨ 57 < c.toNat
    · rw [if_pos hc, if_pos hc]; rfl
    · rw [if_neg hc, if_neg hc]
      have hr : rstep m c = if m ≤ 1000000 then 10 * m + c.toNat - 48 else m := rfl
      rcases h with ⟨rfl, rfl, h⟩ | ⟨rfl, h, rfl⟩
      · rw [if_pos h] at hr
        split
        · exact scan_rscan r _ _ _ (by omega) (.inr ⟨rfl, by omega, rfl⟩)
        · exact scan_rscan r _ _ _ (by omega) (.inl ⟨rfl, by omega, by omega⟩)
      · rw [if_neg (by omega)] at hr
        rw [if_pos (by omega)]
        exact scan_rscan r _ _ _ (by omega) (.inr ⟨rfl, by omega, rfl⟩)
theorem rGet_ev (s : List UInt8) (hs : s.length < 4611686018427387904) : Gives 11 [T s] (getR s) := by
  refine .intro Try.func11 (by kernel_rfl) ((Evt.ge (s.length + 1)).imp fun k hk ro gl => ?_)
  unfold getR
  have hl : s.length ≤ 9223372036854775807 := by omega
  by_cases hz : ∃ c r, s = 48 :: c :: r
  · obtain ⟨c, r, rfl⟩ := hz
    obtain ⟨k, rfl⟩ : ∃ m, k = m + 2 := ⟨k - 2, by simp at hk; omega⟩
    have tail : ∀ S : St, S.hav [0, 4, 5] = rgetS (48 :: c :: r) 0 0 gl ro → loopC Try.prog cf 11 (ev (k + 2)) (k + 2) (bodyOf Try.f11 0) S = some (.ret, st 47 [(2, V.int .i64 0), (3, V.int .i64 2)] [] [] gl ro) := fun S hS => by
      have step := rget_round (ev (k + 2)) (k + 2) gl ro [] (c :: r) 48 0 (by decide) (by omega) (by simp) (by simp)
      have step : (evC Try.prog cf 11 (ev (k + 2)) (k + 2) (bodyOf Try.f11 0) (rgetS (48 :: c :: r) 0 0 gl ro)).map (hv [0, 4, 5]) = _ := step
      rw [← hS] at step
      obtain ⟨S', hS', e⟩ := loop_on step
      show loopA _ [0, 4, 5] [2, 3] _ _ = _
      rw [e]
      refine loop_ret ?_
      rw [hS']
      by_cases hc : c.toNat < 48 ∨ 57 < c.toNat
      · exact rget_bad (ev (k + 2)) (k + 2) gl ro [48] r c _ hc
      · exact rget_zero (ev (k + 2)) (k + 2) gl ro r c _ hc
    simp only [List.length_cons] at hl
    have hne : ¬ (r.length : Int) + 1 + 1 = 0 := by omega
    simp -implicitDefEqProofs [Try.f11, hl, hne]
    refine bind_go (tail _ ?_) ?_
    · simp [rgetS]
    · simp
  · rcases s with _ | ⟨c, r⟩
    · simp -implicitDefEqProofs [Try.f11]
    · have tail : ∀ S : St, S.hav [0, 4, 5] = rgetS (c :: r) 0 0 gl ro → loopC Try.prog cf 11 (ev k) k (bodyOf Try.f11 0) S = _ := fun S hS => rget_loop (ev k) k gl ro (c :: r) (fun c r e => hz ⟨c, r, e⟩) (c :: r) [] 0 k S rfl (by omega) hs (by simp at hk ⊢; omega) hS
      have fin : ¬ (c :: r = [] ∨ (1 < (c :: r).length ∧ (c :: r)[0]? = some 48)) := by
        rintro (h | ⟨h, h'⟩)
        · cases h
        · rcases r with _ | ⟨d, r⟩
          · simp at h
          · simp at h'; exact hz ⟨d, r, by rw [h']⟩
      rw [if_neg fin, scan_rscan (c :: r) 0 0 false (by omega) (.inl ⟨rfl, rfl, by omega⟩)]
      simp only [List.length_cons] at hl
      have hne : ¬ (r.length : Int) + 1 = 0 := by omega
      simp -implicitDefEqProofs [Try.f11, hl, hne]
      refine bind_go (tail _ ?_) ?_
      · simp [rgetS]
      · cases hsc : rscan (c :: r) 0 with
        | none => simp [rres]
        | some m => by_cases hm : 1000000 < m <;> simp [rres, rgetS, hm]
end Go.Proofs.Ytkklkkppedociaa.Ev
