/- Functions of Go's library over texts. -/
import Derived.Test.YtckonoejmjblfaaGreatDoorPkEvOR
set_option linter.unusedVariables false
set_option linter.unusedSimpArgs false
set_option maxRecDepth 100000
set_option maxHeartbeats 2000000
namespace Go.Proofs.YtckonoejmjblfaaGreatDoor.Ev
open Go Go.RowKit

abbrev U8 (c : UInt8) : C := .w (.d (.int .u8 c.toNat))
@[simp] theorem u8_back (c : UInt8) : c.toNat.toUInt8 = c := by simp
@[simp] theorem int_lt_succ (a : Int) : a < a + 1 := by omega
theorem IndexByteString_ev (s : List UInt8) (c : UInt8) : Gives 257 [T s, U8 c] (V.int .i64 (Lib.indexByte s c)) := .nat rfl fun ro gl => by simp [natX, natC]
theorem CountString_ev (s : List UInt8) (c : UInt8) : Gives 207 [T s, U8 c] (V.int .i64 (Lib.countByte s c)) := .nat rfl fun ro gl => by simp [natX, natC]
theorem lIndexByte_ev (s : List UInt8) (c : UInt8) : Gives 205 [T s, U8 c] (V.int .i64 (Lib.indexByte s c)) := by
  refine .intro Tryz.func205 (by kernel_rfl) ((IndexByteString_ev s c).imp fun k h ro gl => ?_)
  simp -implicitDefEqProofs [Tryz.f205, h]
theorem IndexByte_ev (s : List UInt8) (c : UInt8) : Gives 138 [T s, U8 c] (V.int .i64 (Lib.indexByte s c)) := by
  refine .intro Tryz.func138 (by kernel_rfl) ((lIndexByte_ev s c).imp fun k h ro gl => ?_)
  simp -implicitDefEqProofs [Tryz.f138, h]
/-- strings.Count at a text of one byte. -/
theorem Count_ev (s : List UInt8) (c : UInt8) : Gives 144 [T s, T [c]] (V.int .i64 (Lib.countByte s c)) := by
  refine .intro Tryz.func144 (by kernel_rfl) ((CountString_ev s c).imp fun k h ro gl => ?_)
  simp -implicitDefEqProofs [Tryz.f144, h]
def pre (s p : List UInt8) : Bool := decide (p.length ≤ s.length) && decide (s.take p.length = p)
theorem lHasPrefix_ev (s p : List UInt8) : Gives 204 [T s, T p] (V.bool (pre s p)) := by
  refine .intro Tryz.func204 (by kernel_rfl) (.of fun k ro gl => ?_)
  unfold pre
  by_cases h : p.length ≤ s.length
  · have h' : (p.length : Int) ≤ s.length := by omega
    simp -implicitDefEqProofs [Tryz.f204, h, h']
  · have h' : ¬ (p.length : Int) ≤ s.length := by omega
    simp -implicitDefEqProofs [Tryz.f204, h, h']
theorem HasPrefix_ev (s p : List UInt8) : Gives 137 [T s, T p] (V.bool (pre s p)) := by
  refine .intro Tryz.func137 (by kernel_rfl) ((lHasPrefix_ev s p).imp fun k h ro gl => ?_)
  simp -implicitDefEqProofs [Tryz.f137, h]

/-! the last one -/
def lastB (s : List UInt8) (c : UInt8) : Nat → Int
  | 0 => -1
  | n + 1 => if s[n]? = some c then n else lastB s c n
def lbS (s : List UInt8) (c : UInt8) (i : Int) (gl : List (List W)) (ro : Nat) : St := st 19 [(0, .c (T s)), (1, .c (U8 c)), (5, V.int .i64 i)] [] [] gl ro
theorem lb_loop (call : Caller) (N : Nat) (gl : List (List W)) (ro : Nat) (s : List UInt8) (c : UInt8) (hs : s.length < 4611686018427387904) (n : Nat) (hn : s.length < n) (S : St) (hS : S.hav [0, 1, 5] = lbS s c (s.length - 1) gl ro) :
    loopA (evC Tryz.prog cf 209 call N (bodyOf Tryz.f209 0)) [0, 1, 5] [4] n S = some (if 0 ≤ lastB s c s.length then (.ret, st 19 [(4, V.int .i64 (lastB s c s.length))] [] [] gl ro) else (.exit 0, lbS s c (-1) gl ro)) := by
  refine loop_by (fun i : Nat => lbS s c ((i : Int) - 1) gl ro) (fun i => i ≤ s.length) (fun i => i) (fun i => if 0 ≤ lastB s c i then (.ret, st 19 [(4, V.int .i64 (lastB s c i))] [] [] gl ro) else (.exit 0, lbS s c (-1) gl ro)) ?_ n s.length S (Nat.le_refl _) hn hS
  intro i hi
  cases i with
  | zero =>
    refine .inr (.inl ⟨0, lbS s c (-1) gl ro, ?_, by simp [lastB]⟩)
    simp -implicitDefEqProofs [lbS, bodyOf, loopsOf, hv, Tryz.f209]
  | succ i =>
    have e : ((i + 1 : Nat) : Int) - 1 = (i : Int) := by omega
    have hlt : (i : Int) < s.length := by omega
    have hlt' : i < s.length := by omega
    obtain ⟨b, hb⟩ : ∃ b, s[i]? = some b := ⟨_, List.getElem?_eq_getElem hlt'⟩
    have hw : IntKind.i64.wrap ((i : Int) - 1) = (i : Int) - 1 := i64w _ (by omega)
    rw [e]
    by_cases h : b = c
    · subst h
      refine .inr (.inr ⟨st 19 [(4, V.int .i64 i)] [] [] gl ro, ?_, by simp [lastB, hb]⟩)
      simp -implicitDefEqProofs [lbS, bodyOf, loopsOf, hv, Tryz.f209, hlt, hb]
    · have h' : ¬ (b.toNat : Int) = c.toNat := fun e => h (UInt8.toNat_inj.1 (by omega))
      refine .inl ⟨i, by omega, by omega, ?_, by simp [lastB, hb, h]⟩
      simp -implicitDefEqProofs [lbS, bodyOf, loopsOf, hv, Tryz.f209, hlt, hb, h', hw, h]
theorem lastB_ge (s : List UInt8) (c : UInt8) : ∀ n, -1 ≤ lastB s c n
  | 0 => by simp [lastB]
  | n + 1 => by simp only [lastB]; split; omega; exact lastB_ge s c n
theorem LastIndexByteString_ev (s : List UInt8) (c : UInt8) (hs : s.length < 4611686018427387904) : Gives 209 [T s, U8 c] (V.int .i64 (lastB s c s.length)) := by
  refine .intro Tryz.func209 (by kernel_rfl) ((Evt.ge (s.length + 1)).imp fun k hk ro gl => ?_)
  have tail : ∀ S : St, S.hav [0, 1, 5] = lbS s c (s.length - 1) gl gl.length → loopC Tryz.prog cf 209 (ev k) k (bodyOf Tryz.f209 0) S = _ := fun S hS => lb_loop (ev k) k gl gl.length s c hs k (by omega) S hS
  have hw : IntKind.i64.wrap ((s.length : Int) - 1) = (s.length : Int) - 1 := i64w _ (by omega)
  simp -implicitDefEqProofs [Tryz.f209, hw]
  refine bind_go (tail _ ?_) ?_
  · simp [lbS]
  · have := lastB_ge s c s.length
    by_cases h : 0 ≤ lastB s c s.length
    · simp [h]
    · have e : lastB s c s.length = -1 := by omega
      simp [e, lbS]
theorem LastIndexByte_ev (s : List UInt8) (c : UInt8) (hs : s.length < 4611686018427387904) : Gives 145 [T s, U8 c] (V.int .i64 (lastB s c s.length)) := by
  refine .intro Tryz.func145 (by kernel_rfl) ((LastIndexByteString_ev s c hs).imp fun k h ro gl => ?_)
  simp -implicitDefEqProofs [Tryz.f145, h]
end Go.Proofs.YtckonoejmjblfaaGreatDoor.Ev

/- Library: bits.Mul, slices.Repeat of one number, slices.Max. -/
set_option linter.unusedVariables false
set_option linter.unusedSimpArgs false
set_option maxRecDepth 100000
set_option maxHeartbeats 4000000
namespace Go.Proofs.YtckonoejmjblfaaGreatDoor.Ev
open Go Go.RowKit

abbrev U (n : Int) : C := .w (.d (.int .u64 n))
theorem and_lo (n : Nat) (h : n < 4294967296) : intOp .and .u64 (n : Int) 4294967295 = some (.int .u64 n) := by
  have e : (BitVec.ofInt 64 (n : Int) &&& BitVec.ofInt 64 4294967295).toNat = n := by
    rw [BitVec.toNat_and, show (BitVec.ofInt 64 (n : Int)).toNat = n by simp [BitVec.toNat_ofInt]; omega, show (BitVec.ofInt 64 4294967295).toNat = 2 ^ 32 - 1 from rfl, Nat.and_two_pow_sub_one_eq_mod]
    omega
  show some (D.int .u64 (IntKind.u64.wrap ((BitVec.ofInt 64 (n : Int) &&& BitVec.ofInt 64 4294967295).toNat : Nat))) = _
  rw [e, u64w _ (by omega)]
theorem shr_hi (n : Nat) (h : n < 4294967296) : shiftOp .shr .u64 (n : Int) 32 = some (.int .u64 0) := by
  have e : (n : Int).fdiv 4294967296 = 0 := by rw [Int.fdiv_eq_ediv_of_nonneg _ (by omega)]; omega
  show some (D.int .u64 ((n : Int).fdiv (2 ^ 32))) = _
  rw [show (2 : Int) ^ 32 = 4294967296 from rfl, e]
theorem Mul64_ev : Evt fun k => ∀ (n : Nat) ro gl, n < 4294967296 → ev k 213 [U 1, U n] ro gl = some (.tup [U 0, U n], gl) := by
  refine Evt.up (fun _ q => ∀ (n : Nat) ro gl, n < 4294967296 → q [U 1, U n] ro gl = some (.tup [U 0, U n], gl)) Tryz.func213 (by kernel_rfl) (.of fun k n ro gl hn => ?_) fun _ _ h => h
  have h1 := and_lo n hn
  have h2 := shr_hi n hn
  have h3 : intOp .and .u64 1 4294967295 = some (.int .u64 1) := and_lo 1 (by omega)
  have h4 : shiftOp .shr .u64 1 32 = some (.int .u64 0) := shr_hi 1 (by omega)
  have h5 : intOp .and .u64 0 4294967295 = some (.int .u64 0) := and_lo 0 (by omega)
  have h6 : shiftOp .shr .u64 0 32 = some (.int .u64 0) := shr_hi 0 (by omega)
  have w : IntKind.u64.wrap (n : Int) = n := u64w _ (by omega)
  have w0 : IntKind.u64.wrap 0 = 0 := u64w _ (by omega)
  simp -implicitDefEqProofs [Tryz.f213, -intOp, -shiftOp, h1, h2, h3, h4, h5, h6, intOp.eq_1, intOp.eq_3, w, w0]
theorem Mul_ev : Evt fun k => ∀ (n : Nat) ro gl, n < 4294967296 → ev k 150 [U 1, U n] ro gl = some (.tup [U 0, U n], gl) := by
  refine Evt.up (fun _ q => ∀ (n : Nat) ro gl, n < 4294967296 → q [U 1, U n] ro gl = some (.tup [U 0, U n], gl)) Tryz.func150 (by kernel_rfl) (Mul64_ev.imp fun k h n ro gl hn => ?_) fun _ _ h => h
  have h := fun ro gl => h n ro gl hn
  simp -implicitDefEqProofs [Tryz.f150, h]
abbrev iW (z : Int) : W := .d (.int .i64 z)
/-- The cells of an object of whole numbers. -/
def cI (l : List Int) : List W := l.map iW
@[simp] theorem cI_len (l : List Int) : (cI l).length = l.length := List.length_map _
@[simp] theorem cI_take (n : Nat) (l : List Int) : (cI l).take n = cI (l.take n) := List.map_take.symm
@[simp] theorem cI_drop (n : Nat) (l : List Int) : (cI l).drop n = cI (l.drop n) := List.map_drop.symm
@[simp] theorem cI_app (l m : List Int) : cI l ++ cI m = cI (l ++ m) := List.map_append.symm
@[simp] theorem cI_one (x : Int) : cI [x] = [iW x] := rfl
@[simp] theorem cI_nil : cI [] = [] := rfl
@[simp] theorem cI_mid (a b : List Int) (x : Int) : cI a ++ W.d (.int .i64 x) :: cI b = cI (a ++ x :: b) := by simp [cI]
@[simp] theorem cI_expos (l : List Int) : expos (cI l) = some (cI l) := by
  induction l with
  | nil => rfl
  | cons a l ih => simp only [cI, List.map_cons, expos, W.expo, Option.bind_some]; rw [show expos (l.map iW) = some (l.map iW) from ih]; rfl
@[simp] theorem cI_lodges (l : List Int) : lodges (cI l) = some (cI l) := by
  induction l with
  | nil => rfl
  | cons a l ih => simp only [cI, List.map_cons, lodges, W.lodge, W.expo, Option.bind_some]; rw [show lodges (l.map iW) = some (l.map iW) from ih]; rfl
@[simp] theorem cI_rep (n : Nat) (x : Int) : repeatW n [W.d (.int .i64 x)] = cI (List.replicate n x) := by
  induction n with
  | zero => rfl
  | succ n ih => simp only [repeatW, ih, List.replicate_succ, cI, List.map_cons, List.singleton_append]
theorem take1 {α : Type} {l : List α} {i : Nat} {v : α} (h : l[i]? = some v) : (l.drop i).take 1 = [v] := by
  have hlt := (List.getElem?_eq_some_iff.1 h).1
  rw [List.drop_eq_getElem_cons hlt, (List.getElem?_eq_some_iff.1 h).2]
  rfl
def rpS (n : Nat) (z : Int) (gl : List (List W)) (ro m : Nat) : St := st 48 [(7, .c (.w (.gsl gl.length 0 n n 1))), (8, V.int .i64 m)] [] [] (gl ++ [cI (List.replicate m z ++ List.replicate (n - m) 0)]) ro
theorem rp_loop (call : Caller) (N n : Nat) (z : Int) (h0 : 0 < n) (h1 : n < 1000000) (gl : List (List W)) (ro : Nat) (hro : ro ≤ gl.length) (k : Nat) (hk : n < k) (S : St) (hS : S.hav [7, 8] = rpS n z gl ro 1) :
    loopA (evC Tryz.prog cf 268 call N (bodyOf Tryz.f268 0)) [7, 8] [] k S = some (.exit 0, rpS n z gl ro n) := by
  refine loop_by (keep := [7, 8]) (res := []) (fun m : Nat => rpS n z gl ro m) (fun m => 0 < m ∧ m ≤ n) (fun m => n - m) (fun _ => (.exit 0, rpS n z gl ro n)) ?_ k 1 S ⟨by omega, by omega⟩ (by omega) hS
  rintro m ⟨m0, m1⟩
  by_cases hm : m = n
  · subst hm
    refine .inr (.inl ⟨0, rpS m z gl ro m, ?_, rfl⟩)
    simp -implicitDefEqProofs [rpS, bodyOf, loopsOf, hv, Tryz.f268]
  · have g1 : m < n := by omega
    have g1' : (m : Int) < n := by omega
    have hz : ¬ 0 = n := by omega
    refine .inl ⟨m + min m (n - m), by omega, by omega, ?_, rfl⟩
    have e1 : m + (n - m) = n := by omega
    have e2 : min (min m (n - m)) m = min m (n - m) := by omega
    have e3 : m + min m (n - m) ≤ n := by omega
    have w : IntKind.i64.wrap ((m : Int) + (min m (n - m) : Nat)) = (m : Int) + (min m (n - m) : Nat) := i64w _ (by omega)
    simp -implicitDefEqProofs [rpS, bodyOf, loopsOf, hv, Tryz.f268, g1, g1', hm, hro, m1, hz, e1, e2, e3, w]
    congr 4
    rw [← List.append_assoc, List.replicate_append_replicate, List.drop_append, List.drop_of_length_le (by simp), List.nil_append, List.length_replicate, List.drop_replicate]
    congr 2
    omega
theorem Repeat_ev (z : Int) (n : Nat) (h0 : 0 < n) (h1 : n < 1000000) : Evt fun k => ∀ ro gl, ro ≤ gl.length → ev k 268 [L [[.int .i64 z]], I n] ro gl = some (.c (.w (.gsl gl.length 0 n n 1)), gl ++ [cI (List.replicate n z)]) := by
  refine Evt.up (fun _ q => ∀ ro (gl : List (List W)), ro ≤ gl.length → q [L [[.int .i64 z]], I n] ro gl = some (.c (.w (.gsl gl.length 0 n n 1)), gl ++ [cI (List.replicate n z)])) Tryz.func268 (by kernel_rfl) ((Mul_ev.and (Evt.ge (n + 2))).imp fun k ⟨h, hk⟩ ro gl hro => ?_) fun _ _ h => h
  have h := fun ro gl => h n ro gl (by omega)
  have w : IntKind.u64.wrap (n : Int) = n := u64w _ (by omega)
  have w1 : IntKind.u64.wrap 1 = 1 := u64w _ (by omega)
  have w2 : IntKind.i64.wrap (n : Int) = n := i64w _ (by omega)
  have g0 : ¬ (n : Int) < 0 := by omega
  have g1 : ¬ (9223372036854775807 : Int) < n := by omega
  have g2 : ¬ (n : Int) = 0 := by omega
  have g3 : n * 8 ≤ 140737488355328 := by omega
  have g4 : n ≤ 9223372036854775807 := by omega
  have g4' : (n : Int) ≤ 9223372036854775807 := by omega
  have g5 : min 1 n = 1 := by omega
  have g7 : 1 ≤ n := h0
  have g6 : ¬ n = 0 := by omega
  have tail : ∀ S : St, S.hav [7, 8] = rpS n z gl ro 1 → loopC Tryz.prog cf 268 (ev k) k (bodyOf Tryz.f268 0) S = _ := fun S hS => rp_loop (ev k) k n z h0 h1 gl ro hro k (by omega) S hS
  simp -implicitDefEqProofs [Tryz.f268, h, w, w1, w2, g0, g1, g2, g3, g4, g4', g5, g6, g7, hro]
  refine bind_go (tail _ ?_) ?_
  · obtain ⟨q, rfl⟩ : ∃ q, n = q + 1 := ⟨n - 1, by omega⟩
    simp [rpS, List.replicate_succ, cI]
  · simp [rpS]
/-- The greatest. -/
def maxL : List Int → Int → Int
  | [], m => m
  | x :: r, m => maxL r (if x > m then x else m)
abbrev zD (x : Int) : List D := [.int .i64 x]
def mxS (l : List Int) (m : Int) (i : Nat) (gl : List (List W)) (ro : Nat) : St := st 25 [(0, .c (L (l.map zD))), (3, V.int .i64 m), (4, V.int .i64 i)] [] [] gl ro
theorem mx_loop (call : Caller) (N : Nat) (x : Int) (r : List Int) (h1 : r.length < 1000000) (gl : List (List W)) (ro k : Nat) (hk : r.length < k) (S : St) (hS : S.hav [0, 3, 4] = mxS (x :: r) x 1 gl ro) :
    loopA (evC Tryz.prog cf 253 call N (bodyOf Tryz.f253 0)) [0, 3, 4] [] k S = some (.exit 0, mxS (x :: r) (maxL r x) (r.length + 1) gl ro) := by
  refine loop_by (keep := [0, 3, 4]) (res := []) (fun p : Int × Nat => mxS (x :: r) p.1 (p.2 + 1) gl ro) (fun p => p.2 ≤ r.length) (fun p => r.length - p.2) (fun p => (.exit 0, mxS (x :: r) (maxL (r.drop p.2) p.1) (r.length + 1) gl ro)) ?_ k (x, 0) S (by simp) (by simpa using hk) hS
  rintro ⟨m, i⟩ hi
  simp only at hi ⊢
  by_cases h : i = r.length
  · subst h
    refine .inr (.inl ⟨0, mxS (x :: r) m (r.length + 1) gl ro, ?_, ?_⟩)
    · simp -implicitDefEqProofs [mxS, bodyOf, loopsOf, hv, Tryz.f253]
    · rw [List.drop_of_length_le (Nat.le_refl _)]; rfl
  · have h2 : i < r.length := by omega
    have h2' : (i : Int) < r.length := by omega
    have dr : r.drop i = r[i] :: r.drop (i + 1) := List.drop_eq_getElem_cons h2
    have c : r[i]? = some r[i] := List.getElem?_eq_getElem h2
    generalize r[i] = y at dr c
    have hy : r[i] = y := (List.getElem?_eq_some_iff.1 c).2
    have w : IntKind.i64.wrap ((i : Int) + 1 + 1) = (i : Int) + 1 + 1 := i64w _ (by omega)
    have t1 : ((i : Int) + 1).toNat = i + 1 := by omega
    refine .inl ⟨(if y > m then y else m, i + 1), by simp only; omega, by simp only; omega, ?_, by simp only; rw [dr]; rfl⟩
    have g3 : (i : Int) < r.length + 1 := by omega
    have g4 : (0 : Int) ≤ (i : Int) + 1 := by omega
    simp -implicitDefEqProofs [mxS, bodyOf, loopsOf, hv, Tryz.f253, h2, h2', hy, w, t1, g3, g4]
theorem Max_ev : Evt fun k => ∀ (l : List Int) ro gl, 0 < l.length → l.length ≤ 1000 → ev k 253 [L (l.map zD)] ro gl = some (V.int .i64 (maxL l.tail (l.headD 0)), gl) := by
  refine Evt.up (fun _ q => ∀ (l : List Int) ro gl, 0 < l.length → l.length ≤ 1000 → q [L (l.map zD)] ro gl = some (V.int .i64 (maxL l.tail (l.headD 0)), gl)) Tryz.func253 (by kernel_rfl) ((Evt.ge 1002).imp fun k hk l ro gl h0 h1 => ?_) fun _ _ h => h
  obtain ⟨x, r, rfl⟩ : ∃ x r, l = x :: r := by
    cases l with
    | nil => simp at h0
    | cons x r => exact ⟨x, r, rfl⟩
  simp only [List.length_cons] at h1
  have tail : ∀ S : St, S.hav [0, 3, 4] = mxS (x :: r) x 1 gl gl.length → loopC Tryz.prog cf 253 (ev k) k (bodyOf Tryz.f253 0) S = _ := fun S hS => mx_loop (ev k) k x r (by omega) gl gl.length k (by omega) S hS
  have g : ¬ (r.length : Int) + 1 < 1 := by omega
  simp -implicitDefEqProofs [Tryz.f253, g]
  refine bind_go (tail _ ?_) ?_
  · simp [mxS]
  · simp [mxS]
end Go.Proofs.YtckonoejmjblfaaGreatDoor.Ev
