/- Layer 1: numbers that do not run over. -/
import Derived.Test.YtckonoejmjblfaaGreatDoorPkEvOR
set_option linter.unusedVariables false
set_option linter.unusedSimpArgs false
set_option maxRecDepth 100000
set_option maxHeartbeats 2000000
namespace Go.Proofs.YtckonoejmjblfaaGreatDoor.Ev
open Go Go.RowKit

def clamp (x lo hi : Int) : Int := if x < lo then lo else if hi < x then hi else x
def near (x : Int) : Int := clamp x (-1000000) 1000000
theorem near_le (x : Int) : -1000000 ≤ near x ∧ near x ≤ 1000000 := by unfold near clamp; split <;> (try split) <;> omega

theorem Clamp_ev (x lo hi : Int) : Gives 184 [I x, I lo, I hi] (V.int .i64 (clamp x lo hi)) := by
  refine .intro Tryz.func184 (by kernel_rfl) (.of fun n ro gl => ?_)
  unfold clamp
  by_cases h1 : x < lo
  · simp -implicitDefEqProofs [Tryz.f184, h1]
  · by_cases h2 : hi < x <;> simp -implicitDefEqProofs [Tryz.f184, h1, h2]
theorem Near_ev (x : Int) : Gives 271 [I x] (V.int .i64 (near x)) := by
  refine .intro Tryz.func271 (by kernel_rfl) ((Clamp_ev x (-1000000) 1000000).imp fun n h ro gl => ?_)
  simp -implicitDefEqProofs [Tryz.f271, cf, h, near]
theorem Plus_ev (x y : Int) : Gives 274 [I x, I y] (V.int .i64 (near (near x + near y))) := by
  refine .intro Tryz.func274 (by kernel_rfl) (((Near_ev x).and ((Near_ev y).and (Near_ev (near x + near y)))).imp fun n ⟨h1, h2, h3⟩ ro gl => ?_)
  have b1 := near_le x
  have b2 := near_le y
  have e : IntKind.i64.wrap (near x + near y) = near x + near y := IntWalk.i64_in _ (by omega)
  simp -implicitDefEqProofs [Tryz.f274, cf, h1, h2, h3, e]
theorem Minus_ev (x y : Int) : Gives 234 [I x, I y] (V.int .i64 (near (near x - near y))) := by
  refine .intro Tryz.func234 (by kernel_rfl) (((Near_ev x).and ((Near_ev y).and (Near_ev (near x - near y)))).imp fun n ⟨h1, h2, h3⟩ ro gl => ?_)
  have b1 := near_le x
  have b2 := near_le y
  have e : IntKind.i64.wrap (near x - near y) = near x - near y := IntWalk.i64_in _ (by omega)
  simp -implicitDefEqProofs [Tryz.f234, h1, h2, h3, e]
theorem mul_near (x y : Int) : -1000000000000 ≤ near x * near y ∧ near x * near y ≤ 1000000000000 := by
  have b1 := near_le x
  have b2 := near_le y
  generalize near x = a at *
  generalize near y = b at *
  have p1 := Int.mul_nonneg (a := 1000000 - a) (b := 1000000 - b) (by omega) (by omega)
  have p2 := Int.mul_nonneg (a := 1000000 + a) (b := 1000000 - b) (by omega) (by omega)
  have p3 := Int.mul_nonneg (a := 1000000 - a) (b := 1000000 + b) (by omega) (by omega)
  have p4 := Int.mul_nonneg (a := 1000000 + a) (b := 1000000 + b) (by omega) (by omega)
  simp only [Int.sub_mul, Int.mul_sub, Int.add_mul, Int.mul_add] at p1 p2 p3 p4
  omega
theorem Times_ev (x y : Int) : Gives 275 [I x, I y] (V.int .i64 (near (near x * near y))) := by
  refine .intro Tryz.func275 (by kernel_rfl) (((Near_ev x).and ((Near_ev y).and (Near_ev (near x * near y)))).imp fun n ⟨h1, h2, h3⟩ ro gl => ?_)
  have b1 := mul_near x y
  have e : IntKind.i64.wrap (near x * near y) = near x * near y := IntWalk.i64_in _ (by omega)
  simp -implicitDefEqProofs [Tryz.f275, h1, h2, h3, e]
end Go.Proofs.YtckonoejmjblfaaGreatDoor.Ev

/- Layer 1: the number that digits say. -/
set_option linter.unusedVariables false
set_option linter.unusedSimpArgs false
set_option maxRecDepth 100000
set_option maxHeartbeats 2000000
namespace Go.Proofs.YtckonoejmjblfaaGreatDoor.Ev
open Go Go.RowKit

/-- What digits say, up to a bound. -/
def scan : List UInt8 → Int → Bool → Option (Int × Bool)
  | [], n, o => some (n, o)
  | c :: r, n, o => if c.toNat < 48 ∨ 57 < c.toNat then none else if 1000000 < n * 10 + (c.toNat - 48 : Int) then scan r 1000000 true else scan r (n * 10 + (c.toNat - 48 : Int)) o
def scanR : Option (Int × Bool) → V
  | none => .tup [I 0, I 2]
  | some (_, true) => .tup [I 0, I 3]
  | some (n, false) => .tup [I n, I 0]
def getR (s : List UInt8) : V := if s = [] ∨ (1 < s.length ∧ s[0]? = some 48) then .tup [I 0, I 2] else scanR (scan s 0 false)

def getS (s : List UInt8) (n : Int) (o : Bool) (i : Nat) (gl : List (List W)) (ro : Nat) : St :=
  st 44 [(4, V.int .i64 n), (5, .c (.w (.d (.bool o)))), (21, .c (.w (.d (.sl (s.map byteD))))), (22, V.int .i64 s.length), (23, V.int .i64 i)] [] [] gl ro

theorem get_bad (call : Caller) (N : Nat) (gl : List (List W)) (ro : Nat) (p r : List UInt8) (c : UInt8) (n : Int) (o : Bool) (hc : c.toNat < 48 ∨ 57 < c.toNat) :
    (evC Tryz.prog cf 263 call N (bodyOf Tryz.f263 0) (getS (p ++ c :: r) n o p.length gl ro)).map (hv [2, 3])
      = some (.ret, st 44 [(2, V.int .i64 0), (3, V.int .i64 2)] [] [] gl ro) := by
  have hi : (p.length : Int) < p.length + (r.length + 1) := by omega
  by_cases h1 : c.toNat < 48
  · have h1' : (c.toNat : Int) < 48 := by omega
    simp -implicitDefEqProofs [getS, bodyOf, loopsOf, hv, Tryz.f263, h1', hi]
  · have h1' : ¬ (c.toNat : Int) < 48 := by omega
    have h2 : (57 : Int) < c.toNat := by omega
    simp -implicitDefEqProofs [getS, bodyOf, loopsOf, hv, Tryz.f263, h1', h2, hi]

theorem get_round (call : Caller) (N : Nat) (gl : List (List W)) (ro : Nat) (p r : List UInt8) (c : UInt8) (n : Int) (o : Bool) (hc : ¬ (c.toNat < 48 ∨ 57 < c.toNat)) (hn : 0 ≤ n ∧ n ≤ 1000000) (hp : p.length < 4611686018427387904) :
    (evC Tryz.prog cf 263 call N (bodyOf Tryz.f263 0) (getS (p ++ c :: r) n o p.length gl ro)).map (hv [4, 5, 21, 22, 23])
      = some (.normal, if 1000000 < n * 10 + (c.toNat - 48 : Int) then getS (p ++ c :: r) 1000000 true (p.length + 1) gl ro else getS (p ++ c :: r) (n * 10 + (c.toNat - 48 : Int)) o (p.length + 1) gl ro) := by
  have hi : (p.length : Int) < p.length + (r.length + 1) := by omega
  have h1 : ¬ (c.toNat : Int) < 48 := by omega
  have h2 : ¬ (57 : Int) < c.toNat := by omega
  have w1 : IntKind.u8.wrap ((c.toNat : Int) - 48) = c.toNat - 48 := u8w _ (by omega)
  have w2 : IntKind.i64.wrap ((c.toNat : Int) - 48) = c.toNat - 48 := i64w _ (by omega)
  have w3 : IntKind.i64.wrap (n * 10) = n * 10 := i64w _ (by omega)
  have w4 : IntKind.i64.wrap (n * 10 + ((c.toNat : Int) - 48)) = n * 10 + ((c.toNat : Int) - 48) := i64w _ (by omega)
  have w5 : IntKind.i64.wrap ((p.length : Int) + 1) = (p.length : Int) + 1 := i64w _ (by omega)
  by_cases h3 : 1000000 < n * 10 + ((c.toNat : Int) - 48)
  · rw [if_pos h3]
    simp -implicitDefEqProofs [getS, bodyOf, loopsOf, hv, Tryz.f263, h1, h2, hi, w1, w2, w3, w4, w5, h3]
  · rw [if_neg h3]
    simp -implicitDefEqProofs [getS, bodyOf, loopsOf, hv, Tryz.f263, h1, h2, hi, w1, w2, w3, w4, w5, h3]
theorem get_exit (call : Caller) (N : Nat) (gl : List (List W)) (ro : Nat) (s : List UInt8) (n : Int) (o : Bool) :
    (evC Tryz.prog cf 263 call N (bodyOf Tryz.f263 0) (getS s n o s.length gl ro)).map (hv [4, 5, 21, 22, 23])
      = some (.exit 0, getS s n o s.length gl ro) := by
  simp -implicitDefEqProofs [getS, bodyOf, loopsOf, hv, Tryz.f263]
theorem get_loop (call : Caller) (N : Nat) (gl : List (List W)) (ro : Nat) (s : List UInt8) : ∀ (r p : List UInt8) (n : Int) (o : Bool) (k : Nat) (S : St), s = p ++ r → 0 ≤ n ∧ n ≤ 1000000 → s.length < 4611686018427387904 → r.length < k →
    S.hav [4, 5, 21, 22, 23] = getS s n o p.length gl ro →
    loopA (evC Tryz.prog cf 263 call N (bodyOf Tryz.f263 0)) [4, 5, 21, 22, 23] [2, 3] k S
      = some (match scan r n o with
        | none => (.ret, st 44 [(2, V.int .i64 0), (3, V.int .i64 2)] [] [] gl ro)
        | some (m, q) => (.exit 0, getS s m q s.length gl ro)) := by
  intro r
  induction r with
  | nil =>
    intro p n o k S hs hn hl hk hS
    obtain ⟨k, rfl⟩ : ∃ m, k = m + 1 := ⟨k - 1, by simp at hk; omega⟩
    obtain rfl : s = p := by simpa using hs
    refine loop_exit ?_
    rw [hS]
    exact get_exit call N gl ro s n o
  | cons c r ih =>
    intro p n o k S hs hn hl hk hS
    obtain ⟨k, rfl⟩ : ∃ m, k = m + 1 := ⟨k - 1, by simp at hk; omega⟩
    by_cases hc : c.toNat < 48 ∨ 57 < c.toNat
    · simp only [scan, if_pos hc]
      refine loop_ret ?_
      rw [hS, hs]
      exact get_bad call N gl ro p r c n o hc
    · simp only [scan, if_neg hc]
      have hl' : p.length < 4611686018427387904 := by rw [hs] at hl; simp at hl; omega
      have step := get_round call N gl ro p r c n o hc hn hl'
      rw [← hs, ← hS] at step
      obtain ⟨S', hS', e⟩ := loop_on step
      rw [e]
      have hk : r.length < k := by simpa using hk
      by_cases h3 : 1000000 < n * 10 + ((c.toNat : Int) - 48)
      · rw [if_pos h3] at hS' ⊢
        exact ih (p ++ [c]) 1000000 true k S' (by simp [hs]) (by omega) hl hk (by simpa using hS')
      · rw [if_neg h3] at hS' ⊢
        exact ih (p ++ [c]) _ o k S' (by simp [hs]) (by omega) hl hk (by simpa using hS')
theorem Get_ev (s : List UInt8) (hs : s.length < 4611686018427387904) : Gives 263 [T s] (getR s) := by
  refine .intro Tryz.func263 (by kernel_rfl) ((Evt.ge (s.length + 1)).imp fun k hk ro gl => ?_)
  unfold getR
  have hl : s.length ≤ 9223372036854775807 := by omega
  rcases s with _ | ⟨c, r⟩
  · simp -implicitDefEqProofs [Tryz.f263]
  · have tail : ∀ S : St, S.hav [4, 5, 21, 22, 23] = getS (c :: r) 0 false 0 gl gl.length → loopC Tryz.prog cf 263 (ev k) k (bodyOf Tryz.f263 0) S = _ := fun S hS => get_loop (ev k) k gl gl.length (c :: r) (c :: r) [] 0 false k S rfl (by omega) hs (by simp at hk ⊢; omega) hS
    simp only [List.length_cons] at hl
    by_cases h2 : 0 < r.length ∧ c = 48
    · obtain ⟨h1, rfl⟩ := h2
      have h1' : (1 : Int) < r.length + 1 := by omega
      simp -implicitDefEqProofs [Tryz.f263, h1, h1', hl]
    · have fin : ¬ (c :: r = [] ∨ (1 < (c :: r).length ∧ (c :: r)[0]? = some 48)) := by
        simp
        intro h h'
        exact h2 ⟨h, h'⟩
      rw [if_neg fin]
      have pre : bodyA Tryz.prog cf 263 (ev k) k Tryz.f263 [T (c :: r)] ro gl = some (scanR (scan (c :: r) 0 false), gl) := by
        cases r with
        | nil =>
          simp -implicitDefEqProofs [Tryz.f263, hl]
          refine bind_go (tail _ ?_) ?_
          · simp [getS]
          · cases hsc : scan [c] 0 false with
            | none => simp [scanR]
            | some mq =>
              obtain ⟨m, q⟩ := mq
              cases q <;> simp [scanR, getS]
        | cons c' r =>
          have h48 : ¬ (c.toNat : Int) = 48 := by
            intro e
            exact h2 ⟨by simp, UInt8.toNat_inj.1 (by simp; omega)⟩
          have h1' : (1 : Int) < r.length + 1 + 1 := by omega
          simp only [List.length_cons] at hl
          simp -implicitDefEqProofs [Tryz.f263, hl, h1', h48]

          refine bind_go (tail _ ?_) ?_
          · simp [getS]
          · cases hsc : scan (c :: c' :: r) 0 false with
            | none => simp [scanR]
            | some mq =>
              obtain ⟨m, q⟩ := mq
              cases q <;> simp [scanR, getS]
      exact pre
end Go.Proofs.YtckonoejmjblfaaGreatDoor.Ev

/- Layer 1: the number that digits say, by the document. -/
set_option linter.unusedVariables false
set_option linter.unusedSimpArgs false
set_option maxRecDepth 100000
set_option maxHeartbeats 2000000
namespace Go.Proofs.YtckonoejmjblfaaGreatDoor.Ev
open Go Go.RowKit

def rstep (m : Int) (c : UInt8) : Int := if m ≤ 1000000 then 10 * m + c.toNat - 48 else m
def rscan : List UInt8 → Int → Option Int
  | [], m => some m
  | c :: r, m => if c.toNat < 48 ∨ 57 < c.toNat then none else rscan r (rstep m c)
def rgetS (s : List UInt8) (n : Int) (i : Nat) (gl : List (List W)) (ro : Nat) : St :=
  st 47 [(0, .c (T s)), (4, V.int .i64 n), (5, V.int .i64 i)] [] [] gl ro

theorem rget_bad (call : Caller) (N : Nat) (gl : List (List W)) (ro : Nat) (p r : List UInt8) (c : UInt8) (n : Int) (hc : c.toNat < 48 ∨ 57 < c.toNat) :
    (evC Tryz.prog cf 288 call N (bodyOf Tryz.f288 0) (rgetS (p ++ c :: r) n p.length gl ro)).map (hv [2, 3])
      = some (.ret, st 47 [(2, V.int .i64 0), (3, V.int .i64 2)] [] [] gl ro) := by
  have hi : (p.length : Int) < p.length + (r.length + 1) := by omega
  by_cases h1 : c.toNat < 48
  · have h1' : (c.toNat : Int) < 48 := by omega
    simp -implicitDefEqProofs [rgetS, bodyOf, loopsOf, hv, Tryz.f288, h1', hi]
  · have h1' : ¬ (c.toNat : Int) < 48 := by omega
    have h2 : (57 : Int) < c.toNat := by omega
    simp -implicitDefEqProofs [rgetS, bodyOf, loopsOf, hv, Tryz.f288, h1', h2, hi]
theorem rget_zero (call : Caller) (N : Nat) (gl : List (List W)) (ro : Nat) (r : List UInt8) (c : UInt8) (n : Int) (hc : ¬ (c.toNat < 48 ∨ 57 < c.toNat)) :
    (evC Tryz.prog cf 288 call N (bodyOf Tryz.f288 0) (rgetS (48 :: c :: r) n 1 gl ro)).map (hv [2, 3])
      = some (.ret, st 47 [(2, V.int .i64 0), (3, V.int .i64 2)] [] [] gl ro) := by
  have hi : (1 : Int) < r.length + 1 + 1 := by omega
  have h1' : ¬ (c.toNat : Int) < 48 := by omega
  have h2 : ¬ (57 : Int) < c.toNat := by omega
  simp -implicitDefEqProofs [rgetS, bodyOf, loopsOf, hv, Tryz.f288, h1', h2, hi]
theorem rget_round (call : Caller) (N : Nat) (gl : List (List W)) (ro : Nat) (p r : List UInt8) (c : UInt8) (n : Int) (hc : ¬ (c.toNat < 48 ∨ 57 < c.toNat)) (hn : 0 ≤ n ∧ n ≤ 100000000) (hp : p.length < 4611686018427387904) (hz : p ≠ [48]) :
    (evC Tryz.prog cf 288 call N (bodyOf Tryz.f288 0) (rgetS (p ++ c :: r) n p.length gl ro)).map (hv [0, 4, 5])
      = some (.normal, rgetS (p ++ c :: r) (rstep n c) (p.length + 1) gl ro) := by
  have hi : (p.length : Int) < p.length + (r.length + 1) := by omega
  have h1 : ¬ (c.toNat : Int) < 48 := by omega
  have h2 : ¬ (57 : Int) < c.toNat := by omega
  have w1 : IntKind.i64.wrap (10 * n) = 10 * n := i64w _ (by omega)
  have w2 : IntKind.i64.wrap (c.toNat : Int) = c.toNat := i64w _ (by omega)
  have w3 : IntKind.i64.wrap (10 * n + (c.toNat : Int)) = 10 * n + c.toNat := i64w _ (by omega)
  have w4 : IntKind.i64.wrap (10 * n + (c.toNat : Int) - 48) = 10 * n + c.toNat - 48 := i64w _ (by omega)
  have w5 : IntKind.i64.wrap ((p.length : Int) + 1) = (p.length : Int) + 1 := i64w _ (by omega)
  unfold rstep
  by_cases hp1 : p.length = 1
  · obtain ⟨c0, rfl⟩ := List.length_eq_one_iff.1 hp1
    have h48 : ¬ (c0.toNat : Int) = 48 := by
      intro e
      exact hz (by rw [UInt8.toNat_inj.1 (show c0.toNat = (48 : UInt8).toNat by simp; omega)])
    have hi : (1 : Int) < r.length + 1 + 1 := by omega
    have e0 : IntKind.i64.wrap 2 = 2 := rfl
    by_cases h3 : n ≤ 1000000 <;> simp -implicitDefEqProofs [rgetS, bodyOf, loopsOf, hv, Tryz.f288, h1, h2, hi, w1, w2, w3, w4, w5, h3, h48, e0]
  · have hp1' : ¬ (p.length : Int) = 1 := by omega
    by_cases h3 : n ≤ 1000000 <;> simp -implicitDefEqProofs [rgetS, bodyOf, loopsOf, hv, Tryz.f288, h1, h2, hi, w1, w2, w3, w4, w5, h3, hp1, hp1']
theorem rget_exit (call : Caller) (N : Nat) (gl : List (List W)) (ro : Nat) (s : List UInt8) (n : Int) :
    (evC Tryz.prog cf 288 call N (bodyOf Tryz.f288 0) (rgetS s n s.length gl ro)).map (hv [0, 4, 5])
      = some (.exit 0, rgetS s n s.length gl ro) := by
  simp -implicitDefEqProofs [rgetS, bodyOf, loopsOf, hv, Tryz.f288]
theorem rstep_le {n : Int} {c : UInt8} (hc : ¬ (c.toNat < 48 ∨ 57 < c.toNat)) (hn : 0 ≤ n ∧ n ≤ 100000000) : 0 ≤ rstep n c ∧ rstep n c ≤ 100000000 := by
  unfold rstep
  split <;> omega
theorem rget_loop (call : Caller) (N : Nat) (gl : List (List W)) (ro : Nat) (s : List UInt8) (hz : ∀ c r, s ≠ 48 :: c :: r) : ∀ (r p : List UInt8) (n : Int) (k : Nat) (S : St), s = p ++ r → 0 ≤ n ∧ n ≤ 100000000 → s.length < 4611686018427387904 → r.length < k →
    S.hav [0, 4, 5] = rgetS s n p.length gl ro →
    loopA (evC Tryz.prog cf 288 call N (bodyOf Tryz.f288 0)) [0, 4, 5] [2, 3] k S
      = some (match rscan r n with
        | none => (.ret, st 47 [(2, V.int .i64 0), (3, V.int .i64 2)] [] [] gl ro)
        | some m => (.exit 0, rgetS s m s.length gl ro)) := by
  intro r
  induction r with
  | nil =>
    intro p n k S hs hn hl hk hS
    obtain ⟨k, rfl⟩ : ∃ m, k = m + 1 := ⟨k - 1, by simp at hk; omega⟩
    obtain rfl : s = p := by simpa using hs
    refine loop_exit ?_
    rw [hS]
    exact rget_exit call N gl ro s n
  | cons c r ih =>
    intro p n k S hs hn hl hk hS
    obtain ⟨k, rfl⟩ : ∃ m, k = m + 1 := ⟨k - 1, by simp at hk; omega⟩
    by_cases hc : c.toNat < 48 ∨ 57 < c.toNat
    · simp only [rscan, if_pos hc]
      refine loop_ret ?_
      rw [hS, hs]
      exact rget_bad call N gl ro p r c n hc
    · simp only [rscan, if_neg hc]
      have hl' : p.length < 4611686018427387904 := by rw [hs] at hl; simp at hl; omega
      have step := rget_round call N gl ro p r c n hc hn hl' (fun e => hz c r (by rw [hs, e]; rfl))
      rw [← hs, ← hS] at step
      obtain ⟨S', hS', e⟩ := loop_on step
      rw [e]
      exact ih (p ++ [c]) _ k S' (by simp [hs]) (rstep_le hc hn) hl (by simpa using hk) (by simpa using hS')
def rres : Option Int → V
  | none => .tup [I 0, I 2]
  | some m => if 1000000 < m then .tup [I 0, I 3] else .tup [I m, I 0]
theorem scan_rscan : ∀ (r : List UInt8) (n m : Int) (o : Bool), 0 ≤ n → (o = false ∧ m = n ∧ n ≤ 1000000) ∨ (o = true ∧ 1000000 < m ∧ n = 1000000) → scanR (scan r n o) = rres (rscan r m)
  | [], n, m, o, hn, h => by
    rcases h with ⟨rfl, rfl, h⟩ | ⟨rfl, h, rfl⟩
    · simp only [scan, rscan, scanR, rres]; rw [if_neg (by omega)]
    · simp only [scan, rscan, scanR, rres]; rw [if_pos h]
  | c :: r, n, m, o, hn, h => by
    simp only [scan, rscan]
    by_cases hc : c.toNat < 48 ∨ 57 < c.toNat
    · rw [if_pos hc, if_pos hc]; rfl
    · rw [if_neg hc, if_neg hc]
      have hr : rstep m c = if m ≤ 1000000 then 10 * m + c.toNat - 48 else m := rfl
      rcases h with ⟨rfl, rfl, h⟩ | ⟨rfl, h, rfl⟩
      · rw [if_pos h] at hr
        split
        · exact scan_rscan r _ _ _ (by omega) (.inr ⟨rfl, by omega, rfl⟩)
        · exact scan_rscan r _ _ _ (by omega) (.inl ⟨rfl, by omega, by omega⟩)
      · rw [if_neg (by omega)] at hr
        rw [if_pos (by omega)]
        exact scan_rscan r _ _ _ (by omega) (.inr ⟨rfl, by omega, rfl⟩)
theorem rGet_ev (s : List UInt8) (hs : s.length < 4611686018427387904) : Gives 288 [T s] (getR s) := by
  refine .intro Tryz.func288 (by kernel_rfl) ((Evt.ge (s.length + 1)).imp fun k hk ro gl => ?_)
  unfold getR
  have hl : s.length ≤ 9223372036854775807 := by omega
  by_cases hz : ∃ c r, s = 48 :: c :: r
  · obtain ⟨c, r, rfl⟩ := hz
    obtain ⟨k, rfl⟩ : ∃ m, k = m + 2 := ⟨k - 2, by simp at hk; omega⟩
    have tail : ∀ S : St, S.hav [0, 4, 5] = rgetS (48 :: c :: r) 0 0 gl gl.length → loopC Tryz.prog cf 288 (ev (k + 2)) (k + 2) (bodyOf Tryz.f288 0) S = some (.ret, st 47 [(2, V.int .i64 0), (3, V.int .i64 2)] [] [] gl gl.length) := fun S hS => by
      have step := rget_round (ev (k + 2)) (k + 2) gl gl.length [] (c :: r) 48 0 (by decide) (by omega) (by simp) (by simp)
      have step : (evC Tryz.prog cf 288 (ev (k + 2)) (k + 2) (bodyOf Tryz.f288 0) (rgetS (48 :: c :: r) 0 0 gl gl.length)).map (hv [0, 4, 5]) = _ := step
      rw [← hS] at step
      obtain ⟨S', hS', e⟩ := loop_on step
      show loopA _ [0, 4, 5] [2, 3] _ _ = _
      rw [e]
      refine loop_ret ?_
      rw [hS']
      by_cases hc : c.toNat < 48 ∨ 57 < c.toNat
      · exact rget_bad (ev (k + 2)) (k + 2) gl gl.length [48] r c _ hc
      · exact rget_zero (ev (k + 2)) (k + 2) gl gl.length r c _ hc
    simp only [List.length_cons] at hl
    have hne : ¬ (r.length : Int) + 1 + 1 = 0 := by omega
    simp -implicitDefEqProofs [Tryz.f288, hl, hne]
    refine bind_go (tail _ ?_) ?_
    · simp [rgetS]
    · simp
  · rcases s with _ | ⟨c, r⟩
    · simp -implicitDefEqProofs [Tryz.f288]
    · have tail : ∀ S : St, S.hav [0, 4, 5] = rgetS (c :: r) 0 0 gl gl.length → loopC Tryz.prog cf 288 (ev k) k (bodyOf Tryz.f288 0) S = _ := fun S hS => rget_loop (ev k) k gl gl.length (c :: r) (fun c r e => hz ⟨c, r, e⟩) (c :: r) [] 0 k S rfl (by omega) hs (by simp at hk ⊢; omega) hS
      have fin : ¬ (c :: r = [] ∨ (1 < (c :: r).length ∧ (c :: r)[0]? = some 48)) := by
        rintro (h | ⟨h, h'⟩)
        · cases h
        · rcases r with _ | ⟨d, r⟩
          · simp at h
          · simp at h'; exact hz ⟨d, r, by rw [h']⟩
      rw [if_neg fin, scan_rscan (c :: r) 0 0 false (by omega) (.inl ⟨rfl, rfl, by omega⟩)]
      simp only [List.length_cons] at hl
      have hne : ¬ (r.length : Int) + 1 = 0 := by omega
      simp -implicitDefEqProofs [Tryz.f288, hl, hne]
      refine bind_go (tail _ ?_) ?_
      · simp [rgetS]
      · cases hsc : rscan (c :: r) 0 with
        | none => simp [rres]
        | some m => by_cases hm : 1000000 < m <;> simp [rres, rgetS, hm]
end Go.Proofs.YtckonoejmjblfaaGreatDoor.Ev

/- Layer 1: numbers' texts. -/
set_option linter.unusedVariables false
set_option linter.unusedSimpArgs false
set_option maxRecDepth 100000
set_option maxHeartbeats 2000000
namespace Go.Proofs.YtckonoejmjblfaaGreatDoor.Ev
open Go Go.RowKit

/-- The digits of a number. -/
def dg (n : Nat) : List UInt8 := if n < 10 then [UInt8.ofNat (48 + n)] else dg (n / 10) ++ [UInt8.ofNat (48 + n % 10)]
termination_by n
theorem dg_lt {n : Nat} (h : n < 10) : dg n = [UInt8.ofNat (48 + n)] := by rw [dg, if_pos h]
theorem dg_ge {n : Nat} (h : ¬ n < 10) : dg n = dg (n / 10) ++ [UInt8.ofNat (48 + n % 10)] := by rw [dg, if_neg h]
theorem dg_len (n k : Nat) : n < 10 ^ (k + 1) → (dg n).length ≤ k + 1 := by
  induction k generalizing n with
  | zero => intro h; rw [dg_lt (by simpa using h)]; simp
  | succ k ih =>
    intro h
    by_cases hn : n < 10
    · rw [dg_lt hn]; simp
    · rw [dg_ge hn]
      have := ih (n / 10) (by rw [Nat.pow_succ] at h; omega)
      simp
      omega

def digS (n at_ : Nat) (cs : List D) (gl : List (List W)) (ro : Nat) : St :=
  st 20 [(0, V.int .u64 n), (3, .c (.w (.box 3 0))), (4, V.int .i64 at_)] [(3, cs.map W.d)] [] gl ro

theorem dig_round (call : Caller) (N : Nat) (gl : List (List W)) (ro : Nat) (n : Nat) (p : List D) (q : D) (acc : List UInt8) (b : UInt8) (hb : (48 : Int) + (n : Int) % 10 = b.toNat) (hp : p.length + acc.length = 19) (hn : n < 18446744073709551616) (h10 : ¬ n < 10) :
    (evC Tryz.prog cf 153 call N (bodyOf Tryz.f153 0) (digS n (p.length + 1) (p ++ q :: acc.map u8D) gl ro)).map (hv [0, 3, 4])
      = some (.normal, digS (n / 10) p.length (p ++ (b :: acc).map u8D) gl ro) := by
  have hmod : n % 10 < 10 := Nat.mod_lt _ (by omega)
  have hp1 : (p.length : Int) < 20 := by omega
  have hp2 : p.length + 1 ≤ p.length + (acc.length + 1) := by omega
  have w1 : IntKind.i64.wrap (p.length : Int) = p.length := i64w _ (by omega)
  have w2 : IntKind.u8.wrap ((n : Int) % 10) = (n : Int) % 10 := u8w _ (by omega)
  have w3 : IntKind.u8.wrap (48 + (n : Int) % 10) = b.toNat := by rw [u8w _ (by omega)]; exact hb
  have w4 : IntKind.u64.wrap ((n : Int) / 10) = (n : Int) / 10 := u64w _ (by omega)
  have hp5 : 20 - p.length = acc.length + 1 := by omega
  have hd0 : ¬ (n : Int) / 10 = 0 := by omega
  simp -implicitDefEqProofs [digS, bodyOf, loopsOf, hv, Tryz.f153, w1, w2, w3, w4, hp1, hp2, hp5, hd0]

theorem dig_last (call : Caller) (N : Nat) (gl : List (List W)) (ro : Nat) (n : Nat) (p : List D) (q : D) (acc : List UInt8) (b : UInt8) (hb : (48 : Int) + n = b.toNat) (hp : p.length + acc.length = 19) (h10 : n < 10) :
    (evC Tryz.prog cf 153 call N (bodyOf Tryz.f153 0) (digS n (p.length + 1) (p ++ q :: acc.map u8D) gl ro)).map (hv [2])
      = some (.ret, st 20 [(2, V.str (b :: acc))] [] [] gl ro) := by
  have hp1 : (p.length : Int) < 20 := by omega
  have hp2 : p.length + 1 ≤ p.length + (acc.length + 1) := by omega
  have w1 : IntKind.i64.wrap (p.length : Int) = p.length := i64w _ (by omega)
  have w0 : (n : Int) % 10 = n := by omega
  have w2 : IntKind.u8.wrap (n : Int) = n := u8w _ (by omega)
  have w3 : IntKind.u8.wrap (48 + (n : Int)) = b.toNat := by rw [u8w _ (by omega)]; exact hb
  have hp3 : (p.length : Int) ≤ 20 := by omega
  have hp5 : 20 - p.length = acc.length + 1 := by omega
  have hp7 : p.length + (acc.length + 1) - (p.length + 1) = acc.length := by omega
  have hp6 : 20 ≤ acc.length + 1 + p.length := by omega
  have hd0 : (n : Int) / 10 = 0 := by omega
  have hb' : 48 + (n : Int) = b.toNat := hb
  have e0 : IntKind.u64.wrap 0 = 0 := rfl
  simp -implicitDefEqProofs [digS, bodyOf, loopsOf, hv, Tryz.f153, w0, w1, w2, w3, hp1, hp2, hp3, hp5, hp6, hp7, hd0, e0]
  trace_state

theorem u8_nat (m : Nat) (h : m < 256) : (m : Int) = (UInt8.ofNat m).toNat := by
  rw [UInt8.toNat_ofNat']; omega

theorem dig_loop (call : Caller) (N : Nat) (gl : List (List W)) (ro : Nat) : ∀ (n : Nat) (p : List D) (acc : List UInt8) (k : Nat) (s : St), n < 18446744073709551616 → (dg n).length ≤ p.length → p.length + acc.length = 20 → n < k →
    s.hav [0, 3, 4] = digS n p.length (p ++ acc.map u8D) gl ro →
    loopA (evC Tryz.prog cf 153 call N (bodyOf Tryz.f153 0)) [0, 3, 4] [2] k s = some (.ret, st 20 [(2, V.str (dg n ++ acc))] [] [] gl ro) := by
  intro n
  induction n using Nat.strongRecOn with
  | _ n ih =>
    intro p acc k s hn hl hpa hk hs
    obtain ⟨k, rfl⟩ : ∃ m, k = m + 1 := ⟨k - 1, by omega⟩
    obtain ⟨p, q, rfl⟩ : ∃ p' q, p = p' ++ [q] := by
      rcases List.eq_nil_or_concat p with rfl | ⟨p, q, rfl⟩
      · by_cases h : n < 10
        · rw [dg_lt h] at hl; simp at hl
        · rw [dg_ge h] at hl; simp at hl
      · exact ⟨p, q, by simp⟩
    have hs : s.hav [0, 3, 4] = digS n (p.length + 1) (p ++ q :: acc.map u8D) gl ro := by simpa using hs
    simp only [List.length_append, List.length_singleton] at hl hpa
    by_cases h10 : n < 10
    · refine loop_ret ?_
      rw [hs, dg_lt h10]
      exact dig_last call N gl ro n p q acc _ (by rw [← u8_nat _ (by omega)]; omega) (by omega) h10
    · rw [dg_ge h10] at hl
      simp only [List.length_append, List.length_singleton] at hl
      have step := dig_round call N gl ro n p q acc (UInt8.ofNat (48 + n % 10)) (by rw [← u8_nat _ (by omega)]; omega) (by omega) hn h10
      rw [← hs] at step
      obtain ⟨s', hs', e⟩ := loop_on step
      have h := ih (n / 10) (by omega) p (UInt8.ofNat (48 + n % 10) :: acc) k s' (by omega) (by omega) (by simp; omega) (by omega) hs'
      rw [e, h, dg_ge h10]
      simp
theorem digits_ev (n : Nat) (hn : n < 18446744073709551616) : Gives 153 [.w (.d (.int .u64 n))] (V.str (dg n)) := by
  refine .intro Tryz.func153 (by kernel_rfl) ((Evt.ge (n + 1)).imp fun k hk ro gl => ?_)
  have hl := dg_len n 19 (by omega)
  simp -implicitDefEqProofs [Tryz.f153]
  refine bind_go (dig_loop (ev k) k gl gl.length n (List.replicate 20 (.int .u8 0)) [] k _ hn (by simpa using hl) (by simp) (by omega) (by simp [digS])) ?_
  simp

/-- A number's text. -/
def num (n : Int) : List UInt8 := if n < 0 then 45 :: dg n.natAbs else dg n.natAbs
theorem Put_ev (n : Int) (h : -9223372036854775808 ≤ n ∧ n ≤ 9223372036854775807) : Gives 90 [I n] (V.str (num n)) := by
  refine .intro Tryz.func90 (by kernel_rfl) ((digits_ev n.natAbs (by omega)).imp fun k h1 ro gl => ?_)
  unfold num
  by_cases hn : n < 0
  · have e : IntKind.u64.wrap (-IntKind.u64.wrap n) = (n.natAbs : Int) := by
      simp only [IntKind.wrap, IntKind.signed, IntKind.bits, Bool.false_and, Bool.false_eq_true, if_false]
      omega
    have hl := dg_len n.natAbs 19 (by omega)
    have hl : 1 + (dg n.natAbs).length ≤ 9223372036854775807 := by omega
    have hl' : (dg n.natAbs).length + 1 ≤ 9223372036854775807 := by omega
    have h1 : ev k 153 [C.w (W.d (D.int .u64 (n.natAbs : Int)))] gl.length gl = _ := h1 gl.length gl
    rw [← e] at h1
    simp -implicitDefEqProofs [Tryz.f90, hn, h1, hl, hl']
  · have e : IntKind.u64.wrap n = (n.natAbs : Int) := by rw [u64w _ (by omega)]; omega
    have h1 : ev k 153 [C.w (W.d (D.int .u64 (n.natAbs : Int)))] gl.length gl = _ := h1 gl.length gl
    rw [← e] at h1
    simp -implicitDefEqProofs [Tryz.f90, hn, h1]
theorem dig_at (m : Nat) (h : m < 10) : List.drop m (48 :: List.take m [49, 50, 51, 52, 53, 54, 55, 56, 57]) = [UInt8.ofNat (48 + m)] := by
  rcases m with _|_|_|_|_|_|_|_|_|_|m <;> first | rfl | omega
theorem Text_ev (n : Nat) (h : n < 9223372036854775808) : Gives 113 [I n] (V.str (dg n)) := by
  induction n using Nat.strongRecOn with
  | _ n ih =>
    have hm : n % 10 < 10 := Nat.mod_lt _ (by omega)
    have a1 : IntKind.i64.wrap ((n : Int) % 10) = (n : Int) % 10 := i64w _ (by omega)
    have a2 : IntKind.i64.wrap ((n : Int) % 10 + 1) = (n : Int) % 10 + 1 := i64w _ (by omega)
    have a3 : IntKind.i64.wrap ((n : Int) / 10) = (n : Int) / 10 := i64w _ (by omega)
    have c1 : 0 ≤ (n : Int) % 10 := by omega
    have c2 : 0 ≤ (n : Int) % 10 + 1 := by omega
    have c3 : (n : Int) % 10 + 1 ≤ 10 := by omega
    have c4 : (n : Int) % 10 ≤ 10 := by omega
    have c7 : (n : Int) % 10 ≤ (n : Int) % 10 + 1 := by omega
    have c5 : ((n : Int) % 10).toNat = n % 10 := by omega
    have c6 : ((n : Int) % 10 + 1).toNat = n % 10 + 1 := by omega
    have t := dig_at _ hm
    by_cases h10 : n < 10
    · have m0 : n % 10 = n := by omega
      have m1 : (n : Int) % 10 = n := by omega
      have h10' : (n : Int) < 10 := by omega
      refine .intro Tryz.func113 (by kernel_rfl) (.of fun k ro gl => ?_)
      rw [dg_lt h10]
      have t : List.drop (n % 10) (48 :: List.take (n % 10) [49, 50, 51, 52, 53, 54, 55, 56, 57]) = [UInt8.ofNat (48 + n)] := by rw [t, m0]
      simp -implicitDefEqProofs [Tryz.f113, a1, a2, a3, c1, c2, c3, c4, c5, c6, c7, t, h10']
    · refine .intro Tryz.func113 (by kernel_rfl) ((ih (n / 10) (by omega) (by omega)).imp fun k hk ro gl => ?_)
      have hk : ev k 113 [C.w (W.d (D.int .i64 ((n : Int) / 10)))] gl.length gl = _ := hk gl.length gl
      have h10' : ¬ (n : Int) < 10 := by omega
      have hl := dg_len (n / 10) 19 (by omega)
      have hl' : (dg (n / 10)).length + 1 ≤ 9223372036854775807 := by omega
      rw [dg_ge h10]
      simp -implicitDefEqProofs [Tryz.f113, a1, a2, a3, c1, c2, c3, c4, c5, c6, c7, t, h10', hk, hl']
theorem rPut_ev (n : Int) (h : -9223372036854775808 ≤ n ∧ n ≤ 9223372036854775807) : Gives 57 [I n] (V.str (num n)) := by
  unfold num
  by_cases hn : n < 0
  · obtain ⟨m, rfl⟩ : ∃ m : Nat, n = -(m : Int) := ⟨n.natAbs, by omega⟩
    have hm : m % 10 < 10 := Nat.mod_lt _ (by omega)
    have e0 : (-(m : Int)).natAbs = m := by omega
    have n0 : ¬ 0 ≤ -(m : Int) := by omega
    have n1 : ¬ m = 0 := by omega
    have a0 : IntKind.i64.wrap (-((m : Int) % 10)) = -((m : Int) % 10) := i64w _ (by omega)
    have a1 : IntKind.i64.wrap ((m : Int) % 10) = (m : Int) % 10 := i64w _ (by omega)
    have a2 : IntKind.i64.wrap ((m : Int) % 10 + 1) = (m : Int) % 10 + 1 := i64w _ (by omega)
    have a3 : IntKind.i64.wrap ((m : Int) / 10) = (m : Int) / 10 := i64w _ (by omega)
    have a4 : IntKind.i64.wrap (-((m : Int) / 10)) = -((m : Int) / 10) := i64w _ (by omega)
    have c1 : 0 ≤ (m : Int) % 10 := by omega
    have c2 : 0 ≤ (m : Int) % 10 + 1 := by omega
    have c3 : (m : Int) % 10 + 1 ≤ 10 := by omega
    have c4 : (m : Int) % 10 ≤ 10 := by omega
    have c7 : (m : Int) % 10 ≤ (m : Int) % 10 + 1 := by omega
    have c5 : ((m : Int) % 10).toNat = m % 10 := by omega
    have c6 : ((m : Int) % 10 + 1).toNat = m % 10 + 1 := by omega
    have t := dig_at _ hm
    rw [if_pos hn, e0]
    by_cases h10 : m < 10
    · have m0 : m % 10 = m := by omega
      have h10' : (m : Int) < 10 := by omega
      have h10'' : -10 < -(m : Int) := by omega
      refine .intro Tryz.func57 (by kernel_rfl) (.of fun k ro gl => ?_)
      rw [dg_lt h10]
      have t : List.drop (m % 10) (48 :: List.take (m % 10) [49, 50, 51, 52, 53, 54, 55, 56, 57]) = [UInt8.ofNat (48 + m)] := by rw [t, m0]
      simp -implicitDefEqProofs [Tryz.f57, n0, n1, a0, a1, a2, a3, a4, c1, c2, c3, c4, c5, c6, c7, t, h10', h10'']
    · refine .intro Tryz.func57 (by kernel_rfl) ((Text_ev (m / 10) (by omega)).imp fun k hk ro gl => ?_)
      have hk : ev k 113 [C.w (W.d (D.int .i64 ((m : Int) / 10)))] gl.length gl = _ := hk gl.length gl
      have h10' : ¬ (m : Int) < 10 := by omega
      have h10'' : ¬ -10 < -(m : Int) := by omega
      have hl := dg_len (m / 10) 19 (by omega)
      have hl' : (dg (m / 10)).length + 1 ≤ 9223372036854775807 := by omega
      have hl'' : (dg (m / 10)).length + 1 + 1 ≤ 9223372036854775807 := by omega
      have hl3 : 1 + (dg (m / 10)).length ≤ 9223372036854775807 := by omega
      rw [dg_ge h10]
      simp -implicitDefEqProofs [Tryz.f57, n0, n1, a0, a1, a2, a3, a4, c1, c2, c3, c4, c5, c6, c7, t, h10', h10'', hk, hl', hl'', hl3]
  · have e : (n.natAbs : Int) = n := by omega
    refine .intro Tryz.func57 (by kernel_rfl) ((Text_ev n.natAbs (by omega)).imp fun k hk ro gl => ?_)
    have n0 : 0 ≤ n := by omega
    rw [e] at hk
    simp -implicitDefEqProofs [Tryz.f57, n0, hn, hk]
end Go.Proofs.YtckonoejmjblfaaGreatDoor.Ev

/- Layer 1: the laws' bodies. -/
set_option linter.unusedVariables false
set_option linter.unusedSimpArgs false
set_option maxRecDepth 100000
set_option maxHeartbeats 2000000
namespace Go.Proofs.YtckonoejmjblfaaGreatDoor.Ev
open Go Go.RowKit

theorem near_mono {x y : Int} (h : x ≤ y) : near x ≤ near y := by
  unfold near clamp
  split <;> split <;> (try split) <;> (try split) <;> omega
end Go.Proofs.YtckonoejmjblfaaGreatDoor.Ev

/- Layer 1: texts and what they say. -/
set_option linter.unusedVariables false
set_option linter.unusedSimpArgs false
set_option maxRecDepth 100000
set_option maxHeartbeats 2000000
namespace Go.Proofs.YtckonoejmjblfaaGreatDoor.Ev
open Go Go.RowKit

def isDig (c : UInt8) : Prop := ¬ (c.toNat < 48 ∨ 57 < c.toNat)
def vN (m : Nat) (l : List UInt8) : Nat := l.foldl (fun m c => 10 * m + (c.toNat - 48)) m
theorem vN_ge : ∀ (l : List UInt8) (m : Nat), m ≤ vN m l
  | [], m => Nat.le_refl _
  | c :: l, m => by have := vN_ge l (10 * m + (c.toNat - 48)); simp only [vN, List.foldl_cons] at *; omega
theorem vN_snoc (l : List UInt8) (m : Nat) (c : UInt8) : vN m (l ++ [c]) = 10 * vN m l + (c.toNat - 48) := by simp [vN]
theorem scan_over : ∀ (l : List UInt8), (∀ c ∈ l, isDig c) → scan l 1000000 true = some (1000000, true)
  | [], _ => rfl
  | c :: l, h => by
    have hc := h c (by simp)
    unfold isDig at hc
    simp only [scan]
    rw [if_neg hc, if_pos (by omega)]
    exact scan_over l fun d hd => h d (by simp [hd])
theorem scan_val : ∀ (l : List UInt8) (n : Nat), (∀ c ∈ l, isDig c) → n ≤ 1000000 → scan l n false = if vN n l ≤ 1000000 then some ((vN n l : Int), false) else some (1000000, true)
  | [], n, _, h => by
    show some ((n : Int), false) = if n ≤ 1000000 then _ else _
    rw [if_pos h]; rfl
  | c :: l, n, h, hn => by
    have hc := h c (by simp)
    unfold isDig at hc
    have hl : ∀ d ∈ l, isDig d := fun d hd => h d (by simp [hd])
    simp only [scan]
    rw [if_neg hc]
    have e : vN n (c :: l) = vN (10 * n + (c.toNat - 48)) l := rfl
    have := vN_ge l (10 * n + (c.toNat - 48))
    by_cases ho : 1000000 < (n : Int) * 10 + ((c.toNat : Int) - 48)
    · rw [if_pos ho, scan_over l hl, if_neg (by omega)]
    · rw [if_neg ho, show (n : Int) * 10 + ((c.toNat : Int) - 48) = ((10 * n + (c.toNat - 48) : Nat) : Int) by omega, scan_val l _ hl (by omega), e]
theorem scan_dig : ∀ (l : List UInt8) (n : Int) (o : Bool) (r : Int × Bool), scan l n o = some r → ∀ c ∈ l, isDig c
  | [], _, _, _, _ => fun c hc => by simp at hc
  | c :: l, n, o, r, h => by
    simp only [scan] at h
    by_cases hc : c.toNat < 48 ∨ 57 < c.toNat
    · rw [if_pos hc] at h; cases h
    · rw [if_neg hc] at h
      intro d hd
      rcases List.mem_cons.1 hd with rfl | hd
      · exact hc
      · split at h
        · exact scan_dig l _ _ _ h d hd
        · exact scan_dig l _ _ _ h d hd
theorem ofNat_toNat (m : Nat) (h : m < 256) : (UInt8.ofNat m).toNat = m := by rw [UInt8.toNat_ofNat']; omega
theorem dg_dig (n : Nat) : ∀ c ∈ dg n, isDig c := by
  induction n using Nat.strongRecOn with
  | _ n ih =>
    have hm : n % 10 < 10 := Nat.mod_lt _ (by omega)
    by_cases h : n < 10
    · rw [dg_lt h]
      intro c hc
      simp only [List.mem_singleton] at hc
      subst hc
      unfold isDig
      rw [ofNat_toNat _ (by omega)]
      omega
    · rw [dg_ge h]
      intro c hc
      rcases List.mem_append.1 hc with hc | hc
      · exact ih _ (by omega) c hc
      · simp only [List.mem_singleton] at hc
        subst hc
        unfold isDig
        rw [ofNat_toNat _ (by omega)]
        omega
theorem vN_dg (n : Nat) : vN 0 (dg n) = n := by
  induction n using Nat.strongRecOn with
  | _ n ih =>
    by_cases h : n < 10
    · rw [dg_lt h]
      simp only [vN, List.foldl_cons, List.foldl_nil]
      rw [ofNat_toNat _ (by omega)]
      omega
    · rw [dg_ge h, vN_snoc, ih _ (by omega), ofNat_toNat _ (by omega)]
      omega
theorem dg_ne (n : Nat) : dg n ≠ [] := by
  by_cases h : n < 10
  · rw [dg_lt h]; simp
  · rw [dg_ge h]; simp
theorem dg_head (n : Nat) (hn : 0 < n) : ∃ c r, dg n = c :: r ∧ 48 < c.toNat := by
  induction n using Nat.strongRecOn with
  | _ n ih =>
    by_cases h : n < 10
    · rw [dg_lt h]
      exact ⟨_, _, rfl, by rw [ofNat_toNat _ (by omega)]; omega⟩
    · obtain ⟨c, r, h1, h2⟩ := ih (n / 10) (by omega) (by omega)
      exact ⟨c, r ++ [UInt8.ofNat (48 + n % 10)], by rw [dg_ge h, h1]; rfl, h2⟩
/-- No leading zero. -/
def trim (s : List UInt8) : Prop := ¬ (s = [] ∨ (1 < s.length ∧ s[0]? = some 48))
theorem dg_trim (n : Nat) : trim (dg n) := by
  unfold trim
  rcases Nat.eq_zero_or_pos n with rfl | hn
  · rw [dg_lt (by omega)]; simp
  · obtain ⟨c, r, h1, h2⟩ := dg_head n hn
    rw [h1]
    simp
    rintro - rfl
    simp at h2
theorem dg_vN (s : List UInt8) : trim s → (∀ c ∈ s, isDig c) → dg (vN 0 s) = s := by
  induction hk : s.length generalizing s with
  | zero => intro h; exact absurd (List.length_eq_zero_iff.1 hk) (fun e => h (.inl e))
  | succ k ih =>
    intro h hd
    obtain ⟨l, c, rfl⟩ : ∃ l c, s = l ++ [c] := by
      rcases List.eq_nil_or_concat s with rfl | ⟨l, c, rfl⟩
      · simp at hk
      · exact ⟨l, c, by simp⟩
    have hc := hd c (by simp)
    unfold isDig at hc
    have ec : UInt8.ofNat (48 + (c.toNat - 48)) = c := UInt8.toNat_inj.1 (by rw [ofNat_toNat _ (by omega)]; omega)
    rcases l with _ | ⟨a, l⟩
    · simp only [List.nil_append, vN, List.foldl_cons, List.foldl_nil]
      rw [dg_lt (by omega)]
      simp only [Nat.mul_zero, Nat.zero_add]
      rw [ec]
    · have ha := hd a (by simp)
      unfold isDig at ha
      have ha48 : a ≠ 48 := by
        rintro rfl
        exact h (.inr ⟨by simp, by simp⟩)
      have ha49 : 48 < a.toNat := by
        rcases Nat.lt_or_eq_of_le (show 48 ≤ a.toNat by omega) with h | h
        · exact h
        · exact absurd (UInt8.toNat_inj.1 (show a.toNat = (48 : UInt8).toNat by simp; omega)) ha48
      have e := ih (a :: l) (by simp at hk ⊢; omega) (fun h' => by
        rcases h' with h' | ⟨_, h'⟩
        · simp at h'
        · simp at h'; exact ha48 h') (fun d hd' => hd d (by simp at hd' ⊢; rcases hd' with h | h; exact .inl h; exact .inr (.inl h)))
      have hv : 1 ≤ vN 0 (a :: l) := by
        have : vN 0 (a :: l) = vN (10 * 0 + (a.toNat - 48)) l := rfl
        have := vN_ge l (10 * 0 + (a.toNat - 48))
        omega
      rw [vN_snoc, dg_ge (by omega), show (10 * vN 0 (a :: l) + (c.toNat - 48)) / 10 = vN 0 (a :: l) by omega, e, show (10 * vN 0 (a :: l) + (c.toNat - 48)) % 10 = c.toNat - 48 by omega, ec]
theorem getR_trim (s : List UInt8) (ht : trim s) (hd : ∀ c ∈ s, isDig c) : getR s = if vN 0 s ≤ 1000000 then V.tup [I (vN 0 s), I 0] else V.tup [I 0, I 3] := by
  unfold getR
  rw [if_neg ht, show scan s 0 false = scan s ((0 : Nat) : Int) false from rfl, scan_val s 0 hd (by omega)]
  split <;> rfl
theorem getR_cases (s : List UInt8) : (∃ e : Int, getR s = .tup [I 0, I e] ∧ e ≠ 0) ∨ (∃ x : Int, getR s = .tup [I x, I 0] ∧ num x = s ∧ 0 ≤ x ∧ x ≤ 1000000) := by
  by_cases ht : trim s
  · cases hs : scan s 0 false with
    | none =>
      refine .inl ⟨2, ?_, by decide⟩
      unfold getR
      rw [if_neg ht, hs]
      rfl
    | some r =>
      have hd := scan_dig _ _ _ _ hs
      rw [getR_trim s ht hd]
      by_cases hv : vN 0 s ≤ 1000000
      · refine .inr ⟨vN 0 s, by rw [if_pos hv], ?_, by omega, by omega⟩
        unfold num
        rw [if_neg (by omega), Int.natAbs_natCast, dg_vN s ht hd]
      · exact .inl ⟨3, by rw [if_neg hv], by decide⟩
  · refine .inl ⟨2, ?_, by decide⟩
    unfold getR
    unfold trim at ht
    rw [if_pos (Classical.not_not.1 ht)]
theorem getR_num (n : Int) : ((0 ≤ n ∧ n ≤ 1000000) ∧ getR (num n) = .tup [I n, I 0]) ∨ (¬ (0 ≤ n ∧ n ≤ 1000000) ∧ ∃ e : Int, getR (num n) = .tup [I 0, I e] ∧ e ≠ 0) := by
  unfold num
  by_cases h0 : n < 0
  · rw [if_pos h0]
    refine .inr ⟨by omega, 2, ?_, by decide⟩
    unfold getR
    split
    · rfl
    · simp [scan, scanR]
  · rw [if_neg h0, getR_trim _ (dg_trim _) (dg_dig _), vN_dg]
    by_cases hn : n ≤ 1000000
    · exact .inl ⟨by omega, by rw [if_pos (by omega), show ((n.natAbs : Nat) : Int) = n by omega]⟩
    · exact .inr ⟨by omega, 3, by rw [if_neg (by omega)], by decide⟩
theorem num_len (n : Int) (h : -9223372036854775808 ≤ n ∧ n ≤ 9223372036854775807) : (num n).length ≤ 21 := by
  have := dg_len n.natAbs 19 (by omega)
  unfold num
  split <;> simp <;> omega
end Go.Proofs.YtckonoejmjblfaaGreatDoor.Ev
