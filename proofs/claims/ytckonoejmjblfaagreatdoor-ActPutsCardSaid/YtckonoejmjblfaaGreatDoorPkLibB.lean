/- strings.TrimLeft at blanks. -/
import Derived.Test.YtckonoejmjblfaaGreatDoorPkLib
import Derived.Test.YtckonoejmjblfaaGreatDoorPkEvOR
set_option linter.unusedVariables false
set_option linter.unusedSimpArgs false
set_option maxRecDepth 100000
set_option maxHeartbeats 2000000
namespace Go.Proofs.YtckonoejmjblfaaGreatDoor.Ev
open Go Go.RowKit

/-- A set of bytes. -/
def bs (p : Nat → Bool) : List W := (List.range 256).map fun i => .d (.bool (p i))
@[simp] theorem bs_len (p : Nat → Bool) : (bs p).length = 256 := by simp [bs]
@[simp] theorem bs_take (p : Nat → Bool) : (bs p).take 256 = bs p := List.take_of_length_le (by simp)
@[simp] theorem bs_drop (p : Nat → Bool) : (bs p).drop 256 = [] := List.drop_of_length_le (by simp)
@[simp] theorem bs_settles (gl : List (List W)) (b : Nat) (p : Nat → Bool) : settles gl b (bs p) = some (bs p) := by
  unfold bs
  generalize List.range 256 = l
  induction l with
  | nil => rfl
  | cons a l ih => simp only [List.map_cons, settles, W.settle, Option.bind_some, ih, Option.map_some]
@[simp] theorem bs_known (p : Nat → Bool) : (bs p).all W.known = true := by simp [bs]
@[simp] theorem bs_below (p : Nat → Bool) (n : Nat) : (bs p).all (W.below n) = true := by simp [bs]
@[simp] theorem bs_hav (p : Nat → Bool) (k : List Nat) : (bs p).map (W.hav k) = bs p := by simp [bs]
theorem expos_d : ∀ l : List D, expos (l.map W.d) = some (l.map W.d)
  | [] => rfl
  | a :: l => by simp only [List.map_cons, expos, W.expo, Option.bind_some, expos_d l, Option.map_some]
@[simp] theorem bs_expo (p : Nat → Bool) : expos (bs p) = some (bs p) := by
  have := expos_d ((List.range 256).map fun i => D.bool (p i))
  simpa [bs, Function.comp] using this
theorem lodges_d : ∀ l : List D, lodges (l.map W.d) = some (l.map W.d)
  | [] => rfl
  | a :: l => by simp only [List.map_cons, lodges, W.lodge, W.expo, Option.bind_some, lodges_d l, Option.map_some]
@[simp] theorem bs_lodges (p : Nat → Bool) : lodges (bs p) = some (bs p) := by
  have := lodges_d ((List.range 256).map fun i => D.bool (p i))
  simpa [bs, Function.comp] using this
theorem bs_put (p : Nat → Bool) (i : Nat) (h : i < 256) : (bs p).take i ++ W.d (.bool true) :: (bs p).drop (i + 1) = bs fun j => p j || decide (j = i) := by
  apply List.ext_getElem?
  intro j
  rw [List.getElem?_append, List.length_take, bs_len]
  by_cases hj : j < i
  · rw [if_pos (by omega), List.getElem?_take, if_pos hj]
    simp only [bs, List.getElem?_map, List.getElem?_range]
    by_cases h' : j < 256
    · simp [h', show ¬ j = i by omega]
    · simp [h']
  · rw [if_neg (by omega), show min i 256 = i by omega]
    by_cases he : j = i
    · subst he
      simp [bs, h]
    · obtain ⟨k, hk⟩ : ∃ k, j - i = k + 1 := ⟨j - i - 1, by omega⟩
      rw [hk, List.getElem?_cons_succ, List.getElem?_drop, show i + 1 + k = j by omega]
      simp only [bs, List.getElem?_map, he, decide_false, Bool.or_false]
      by_cases hj2 : j < 256
      · rw [List.getElem?_range hj2]; simp [he]
      · rw [List.getElem?_eq_none (by simp; omega)]; rfl
@[simp] theorem bs_p9 (p : Nat → Bool) : (bs p).take 9 ++ W.d (.bool true) :: (bs p).drop 10 = bs fun j => p j || decide (j = 9) := bs_put p 9 (by omega)
@[simp] theorem bs_p10 (p : Nat → Bool) : (bs p).take 10 ++ W.d (.bool true) :: (bs p).drop 11 = bs fun j => p j || decide (j = 10) := bs_put p 10 (by omega)
@[simp] theorem bs_p13 (p : Nat → Bool) : (bs p).take 13 ++ W.d (.bool true) :: (bs p).drop 14 = bs fun j => p j || decide (j = 13) := bs_put p 13 (by omega)
@[simp] theorem bs_p32 (p : Nat → Bool) : (bs p).take 32 ++ W.d (.bool true) :: (bs p).drop 33 = bs fun j => p j || decide (j = 32) := bs_put p 32 (by omega)
theorem bs_at (p : Nat → Bool) (i : Nat) (h : i < 256) : ((bs p).drop i).take 1 = [W.d (.bool (p i))] := by
  have : i < (bs p).length := by simpa using h
  rw [List.drop_eq_getElem_cons this]
  simp [bs]
theorem sz_set : szOf Tryz.prog 226 = some 256 := by kernel_rfl
theorem ag_set : isAggT Tryz.prog 226 = some true := by kernel_rfl
theorem zr_set : zeroC Tryz.prog 226 = some (.agg (bs fun _ => false)) := by kernel_rfl
attribute [simp] sz_set ag_set zr_set -- 226
attribute [simp] Tryz.underlying226 Tryz.underlying230

theorem contains_ev (p : Nat → Bool) : Evt fun k => ∀ (c : UInt8) gl o ro, (gl : List (List W))[o]? = some (bs p) → ev k 254 [.w (.glo o 0), U8 c] ro gl = some (V.bool (p c.toNat), gl) := by
  refine Evt.up (fun _ g => ∀ (c : UInt8) gl o ro, (gl : List (List W))[o]? = some (bs p) → g [.w (.glo o 0), U8 c] ro gl = some (V.bool (p c.toNat), gl)) Tryz.func254 (by kernel_rfl) (.of fun k c gl o ro h => ?_) fun _ _ h => h
  have hc : (c.toNat : Int) < 256 := by have := c.toNat_lt; omega
  have hc' : c.toNat + 1 ≤ 256 := by have := c.toNat_lt; omega
  simp -implicitDefEqProofs [Tryz.f254, h, hc, hc', bs_at p c.toNat (by have := c.toNat_lt; omega)]
def taS (s : List UInt8) (o : Nat) (gl : List (List W)) (ro : Nat) : St := st 16 [(0, .c (T s)), (1, .c (.w (.glo o 0)))] [] [] gl ro
theorem ta_loop (p : Nat → Bool) : Evt fun k => ∀ (gl : List (List W)) o ro, gl[o]? = some (bs p) → ∀ (s : List UInt8) n S, s.length < 4611686018427387904 → s.length < n → S.hav [0, 1] = taS s o gl ro →
    loopA (evC Tryz.prog cf 202 (ev k) k (bodyOf Tryz.f202 0)) [0, 1] [] n S = some (.exit 0, taS (s.dropWhile fun c => p c.toNat) o gl ro) := by
  refine (contains_ev p).imp fun k h1 gl o ro h s => ?_
  induction s with
  | nil =>
    intro n S _ hn hS
    obtain ⟨n, rfl⟩ : ∃ m, n = m + 1 := ⟨n - 1, by simp at hn; omega⟩
    refine loop_exit ?_
    rw [hS]
    simp -implicitDefEqProofs [taS, bodyOf, loopsOf, hv, Tryz.f202]
  | cons c s ih =>
    intro n S hs hn hS
    have h2 := fun ro => h1 c gl o ro h
    simp only [List.length_cons] at hs
    obtain ⟨n, rfl⟩ : ∃ m, n = m + 1 := ⟨n - 1, by simp at hn; omega⟩
    have g0 : (0 : Int) < s.length + 1 := by omega
    have g1 : (1 : Int) ≤ s.length + 1 := by omega
    cases hp : p c.toNat with
    | true =>
      have round : (evC Tryz.prog cf 202 (ev k) k (bodyOf Tryz.f202 0) (taS (c :: s) o gl ro)).map (hv [0, 1]) = some (.normal, taS s o gl ro) := by
        simp -implicitDefEqProofs [taS, bodyOf, loopsOf, hv, Tryz.f202, g0, g1, h2, hp]
      rw [← hS] at round
      obtain ⟨S', hS', e⟩ := loop_on round
      rw [e, ih n S' (by omega) (by simpa using hn) hS', List.dropWhile_cons, if_pos hp]
    | false =>
      refine loop_exit ?_
      rw [hS, List.dropWhile_cons, if_neg (by simp [hp])]
      simp -implicitDefEqProofs [taS, bodyOf, loopsOf, hv, Tryz.f202, g0, g1, h2, hp]
theorem trimASCII_ev (p : Nat → Bool) (s : List UInt8) (hs : s.length < 4611686018427387904) : ReadsU 202 (fun o => [T s, .w (.glo o 0)]) (bs p) (V.str (s.dropWhile fun c => p c.toNat)) := by
  refine .intro Tryz.func202 (by kernel_rfl) ((ta_loop p).and (Evt.ge (s.length + 1)) |>.imp fun k ⟨h1, hk⟩ gl o ro h => ?_)
  have tail : ∀ S : St, S.hav [0, 1] = taS s o gl gl.length → loopC Tryz.prog cf 202 (ev k) k (bodyOf Tryz.f202 0) S = _ := fun S hS => h1 gl o gl.length h s k S hs (by omega) hS
  simp -implicitDefEqProofs [Tryz.f202]
  refine bind_go (tail _ ?_) ?_
  · simp [taS]
  · simp [taS]
def blank (i : Nat) : Bool := decide (i = 32) || decide (i = 9) || decide (i = 10) || decide (i = 13)
def mkP : Nat → Nat → Bool
  | 0 => fun _ => false
  | 1 => fun j => decide (j = 32)
  | 2 => fun j => decide (j = 32) || decide (j = 9)
  | 3 => fun j => decide (j = 32) || decide (j = 9) || decide (j = 10)
  | _ => blank
def mkS (i : Nat) (gl : List (List W)) (ro : Nat) : St := st 21 [(0, .c (T [32, 9, 10, 13])), (2, .c (.w (.box 2 0))), (4, V.int .i64 i)] [(2, bs (mkP i))] [] gl ro
theorem mk_loop (call : Caller) (N : Nat) (gl : List (List W)) (ro : Nat) (n : Nat) (hn : 4 < n) (S : St) (hS : S.hav [0, 2, 4] = mkS 0 gl ro) :
    loopA (evC Tryz.prog cf 201 call N (bodyOf Tryz.f201 0)) [0, 2, 4] [2, 3] n S = some (.exit 0, mkS 4 gl ro) := by
  refine loop_by (fun i : Nat => mkS i gl ro) (fun i => i ≤ 4) (fun i => 4 - i) (fun _ => (.exit 0, mkS 4 gl ro)) ?_ n 0 S (by omega) (by omega) hS
  intro i hi
  match i, hi with
  | 0, _ =>
    refine .inl ⟨1, by omega, by omega, ?_, rfl⟩
    simp -implicitDefEqProofs [mkS, mkP, bodyOf, loopsOf, hv, Tryz.f201]
  | 1, _ =>
    refine .inl ⟨2, by omega, by omega, ?_, rfl⟩
    simp -implicitDefEqProofs [mkS, mkP, bodyOf, loopsOf, hv, Tryz.f201]
  | 2, _ =>
    refine .inl ⟨3, by omega, by omega, ?_, rfl⟩
    simp -implicitDefEqProofs [mkS, mkP, bodyOf, loopsOf, hv, Tryz.f201]
  | 3, _ =>
    refine .inl ⟨4, by omega, by omega, ?_, rfl⟩
    simp -implicitDefEqProofs [mkS, mkP, blank, bodyOf, loopsOf, hv, Tryz.f201]
    rfl
  | 4, _ =>
    refine .inr (.inl ⟨0, mkS 4 gl ro, ?_, rfl⟩)
    simp -implicitDefEqProofs [mkS, bodyOf, loopsOf, hv, Tryz.f201]
theorem makeSet_ev : Gives 201 [T [32, 9, 10, 13]] (.tup [.agg (bs blank), B true]) := by
  refine .intro Tryz.func201 (by kernel_rfl) ((Evt.ge 5).imp fun k hk ro gl => ?_)
  have tail : ∀ S : St, S.hav [0, 2, 4] = mkS 0 gl gl.length → loopC Tryz.prog cf 201 (ev k) k (bodyOf Tryz.f201 0) S = _ := fun S hS => mk_loop (ev k) k gl gl.length k (by omega) S hS
  simp -implicitDefEqProofs [Tryz.f201]
  refine bind_go (tail _ ?_) ?_
  · simp [mkS, mkP]
  · simp [mkS, mkP]
theorem TrimLeft_ev (s : List UInt8) (hs : s.length < 4611686018427387904) : Gives 136 [T s, T [32, 9, 10, 13]] (V.str (s.dropWhile fun c => blank c.toNat)) := by
  refine .intro Tryz.func136 (by kernel_rfl) (makeSet_ev.and (trimASCII_ev blank s hs) |>.imp fun k ⟨h1, h2⟩ ro gl => ?_)
  have h3 := fun ro => h2 (gl ++ [bs blank]) gl.length ro (get_last _ _)
  by_cases h : s = []
  · subst h
    simp -implicitDefEqProofs [Tryz.f136]
  · simp -implicitDefEqProofs [Tryz.f136, h, h1, h3]
end Go.Proofs.YtckonoejmjblfaaGreatDoor.Ev
