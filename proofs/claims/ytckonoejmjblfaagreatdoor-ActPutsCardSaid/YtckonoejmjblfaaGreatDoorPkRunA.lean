/- Layer 8, the document's: which values stand ahead; values put where they stand. -/
import Derived.Test.YtckonoejmjblfaaGreatDoorPkEvaA
import Derived.Test.YtckonoejmjblfaaGreatDoorPkLib
import Derived.Test.YtckonoejmjblfaaGreatDoorPkTre
import Derived.Test.YtckonoejmjblfaaGreatDoorPkEvOR
set_option linter.unusedVariables false
set_option linter.unusedSimpArgs false
set_option maxRecDepth 100000
set_option maxHeartbeats 4000000
namespace Go.Proofs.YtckonoejmjblfaaGreatDoor.Ev
open Go Go.RowKit

def Q4.r (q : Q4) : List D := [.int .i64 q.a, .int .i64 q.b, .int .i64 q.c, .int .i64 q.d]
def rlsS (p q : Q4) (i : Nat) (gl : List (List W)) (ro : Nat) : St := st 24 [(2, .c (.w (.box 2 0))), (3, .c (.w (.box 3 0))), (5, V.int .i64 i)] [(2, p.ws), (3, q.ws)] [] gl ro
/-- Rows of four held against each other. -/
theorem eq_q4 (a b c d a' b' c' d' : Int) : eqVal Tryz.prog 8 108 [.int .i64 a, .int .i64 b, .int .i64 c, .int .i64 d] [.int .i64 a', .int .i64 b', .int .i64 c', .int .i64 d'] = some (decide ((⟨a, b, c, d⟩ : Q4) = ⟨a', b', c', d'⟩)) := by
  by_cases e1 : a = a'
  · by_cases e2 : b = b'
    · by_cases e3 : c = c'
      · by_cases e4 : d = d' <;> simp [e1, e2, e3, e4, List.range_succ]
      · simp [e1, e2, e3, List.range_succ]
    · simp [e1, e2, List.range_succ]
  · simp [e1, List.range_succ]
def smS (l : List Q4) (i : Nat) (gl : List (List W)) (ro : Nat) : St := st 26 [(0, .c (L (l.map Q4.r))), (1, .c (L (l.map Q4.r))), (5, V.int .i64 i)] [] [] gl ro
/-- How many stand ahead. -/
def preQ : List Q4 → Q4 → Nat
  | [], _ => 0
  | y :: r, x => if ltQ y x = true then preQ r x + 1 else 0
theorem preQ_le (x : Q4) : ∀ l : List Q4, preQ l x ≤ l.length
  | [] => Nat.le_refl _
  | y :: r => by
    have := preQ_le x r
    unfold preQ
    split <;> simp <;> omega
theorem preQ_lt (x : Q4) : ∀ (l : List Q4) (i : Nat) (y : Q4), i < preQ l x → l[i]? = some y → ltQ y x = true
  | [], i, y, h, _ => by simp [preQ] at h
  | z :: r, i, y, h, hy => by
    unfold preQ at h
    split at h
    · cases i with
      | zero => simp at hy; subst hy; assumption
      | succ i => exact preQ_lt x r i y (by omega) (by simpa using hy)
    · omega
theorem preQ_eq (x : Q4) : ∀ (l : List Q4) (y : Q4), l[preQ l x]? = some y → ltQ y x = false
  | [], y, h => by simp at h
  | z :: r, y, h => by
    unfold preQ at h
    split at h
    · exact preQ_eq x r y (by simpa using h)
    · rename_i hz
      simp at h
      subst h
      simpa using hz
theorem withQ_split (x : Q4) : ∀ l : List Q4, withQ l x = if l[preQ l x]? = some x then l else l.take (preQ l x) ++ x :: l.drop (preQ l x)
  | [] => by simp [withQ, preQ]
  | y :: r => by
    have ih := withQ_split x r
    unfold withQ preQ
    by_cases h : ltQ y x = true
    · rw [if_pos h, if_pos h, ih]
      simp only [List.getElem?_cons_succ, List.take_succ_cons, List.drop_succ_cons]
      split <;> simp
    · rw [if_neg h, if_neg h]
      by_cases h2 : y = x
      · simp [h2]
      · simp [h2]
def wiS (l : List Q4) (x : Q4) (i : Nat) (gl : List (List W)) (ro : Nat) : St := st 48 [(0, .c (L (l.map Q4.r))), (3, .c (.w (.box 3 0))), (5, V.int .i64 i)] [(3, x.ws)] [] gl ro
end Go.Proofs.YtckonoejmjblfaaGreatDoor.Ev

/- slices.Compact at rows of four numbers. -/
set_option linter.unusedVariables false
set_option linter.unusedSimpArgs false
set_option maxRecDepth 100000
set_option maxHeartbeats 4000000
namespace Go.Proofs.YtckonoejmjblfaaGreatDoor.Ev
open Go Go.RowKit

theorem cellsQ_app (a b : List Q4) : cellsQ (a ++ b) = cellsQ a ++ cellsQ b := by simp [cellsQ]
theorem cellsQ_get (rest : List W) : ∀ (A : List Q4) (i : Nat) (x : Q4), A[i]? = some x → List.take 4 (List.drop (i * 4) (cellsQ A ++ rest)) = x.ws
  | [], i, x, h => by simp at h
  | q :: A, 0, x, h => by
    simp at h
    subst h
    simp [cellsQ, Q4.ws]
  | q :: A, i + 1, x, h => by
    have : (i + 1) * 4 = 4 + i * 4 := by omega
    rw [this, ← List.drop_drop]
    have e : List.drop 4 (cellsQ (q :: A) ++ rest) = cellsQ A ++ rest := by simp [cellsQ, Q4.ws]
    rw [e]
    exact cellsQ_get rest A i x (by simpa using h)
theorem cellsQ_put (rest : List W) (x : Q4) : ∀ (A : List Q4) (i : Nat), i < A.length → List.take (i * 4) (cellsQ A ++ rest) ++ (x.ws ++ List.drop (i * 4 + 4) (cellsQ A ++ rest)) = cellsQ (A.set i x) ++ rest
  | [], i, h => by simp at h
  | q :: A, 0, h => by simp [cellsQ, Q4.ws]
  | q :: A, i + 1, h => by
    have e1 : (i + 1) * 4 = i * 4 + 4 := by omega
    have ih := cellsQ_put rest x A i (by simpa using h)
    have e2 : cellsQ (q :: A) ++ rest = q.ws ++ (cellsQ A ++ rest) := by simp [cellsQ]
    have e3 : cellsQ ((q :: A).set (i + 1) x) ++ rest = q.ws ++ (cellsQ (A.set i x) ++ rest) := by simp [cellsQ]
    have l4 : q.ws.length = 4 := rfl
    rw [e1, e2, e3, ← ih, List.take_append, List.take_of_length_le (by omega), List.drop_append, List.drop_of_length_le (by omega), l4]
    rw [show i * 4 + 4 - 4 = i * 4 by omega, show i * 4 + 4 + 4 - 4 = i * 4 + 4 by omega]
    simp
/-- What follows a row's last one. -/
theorem compQ_snoc (y : Q4) : ∀ (l : List Q4) (z : Q4), l.getLast? = some z → compQ (l ++ [y]) = if z = y then compQ l else compQ l ++ [y]
  | [], z, h => by simp at h
  | [a], z, h => by
    simp at h
    subst h
    simp only [List.cons_append, List.nil_append, compQ]
    by_cases h : a = y
    · simp [h]
    · simp [h]
  | a :: b :: r, z, h => by
    have ih := compQ_snoc y (b :: r) z (by simpa using h)
    simp only [List.cons_append] at ih
    simp only [List.cons_append, compQ]
    rw [ih]
    by_cases h1 : a = b
    · simp only [if_pos h1]
    · simp only [if_neg h1]
      split <;> rfl
theorem compQ_len : ∀ l : List Q4, (compQ l).length ≤ l.length
  | [] => Nat.le_refl _
  | [a] => Nat.le_refl _
  | a :: b :: r => by
    have ih := compQ_len (b :: r)
    unfold compQ
    split <;> simp at ih ⊢ <;> omega
/-- No two beside each other are the same, up to a place. -/
theorem compQ_id : ∀ l : List Q4, (∀ i x y, l[i]? = some x → l[i + 1]? = some y → x ≠ y) → compQ l = l
  | [], _ => rfl
  | [a], _ => rfl
  | a :: b :: r, h => by
    have h0 := h 0 a b rfl rfl
    unfold compQ
    rw [if_neg h0, compQ_id (b :: r) fun i x y hx hy => h (i + 1) x y (by simpa using hx) (by simpa using hy)]
def cpS (o n m : Nat) (i : Nat) (gl : List (List W)) (ro : Nat) : St := st 61 [(0, .c (.w (.gsl o 0 n m 4))), (3, V.int .i64 i)] [] [] gl ro
def cqS (o n m k nk mk : Nat) (i k2 : Nat) (gl : List (List W)) (ro : Nat) : St := st 61 [(0, .c (.w (.gsl o 0 n m 4))), (3, V.int .i64 i), (4, .c (.w (.gsl o (k * 4) nk mk 4))), (5, V.int .i64 k2)] [] [] gl ro
theorem take_set1 {α : Type} (A : List α) (i : Nat) (x : α) (h : i < A.length) : (A.set i x).take (i + 1) = A.take i ++ [x] := by
  rw [List.take_add_one, List.take_set_of_le (Nat.le_refl _), List.getElem?_set, if_pos rfl, if_pos h]
  rfl
theorem drop_one {α : Type} {A l : List α} {n : Nat} (h : A.drop n = l.drop n) : A.drop (n + 1) = l.drop (n + 1) := by
  rw [← List.drop_drop, ← List.drop_drop, h]
theorem drop_get {α : Type} {A l : List α} {n j : Nat} (h : A.drop n = l.drop n) (hj : n ≤ j) : A[j]? = l[j]? := by
  have := congrArg (fun z => z[j - n]?) h
  simp only [List.getElem?_drop] at this
  rwa [show n + (j - n) = j by omega] at this
/-- The inner loop: what is found behind the first one that is there twice. -/
theorem cq_loop (call : Caller) (N : Nat) (o m k nk mk : Nat) (l : List Q4) (rest : List W) (hl : l.length < 1000000) (hk : 1 ≤ k) (hnk : k + nk = l.length) (gl : List (List W)) (ro : Nat) (hg : o < gl.length) (hro : ro ≤ o) : ∀ (d q : Nat) (A : List Q4) (c : List Q4) (n : Nat) (S : St), k + (q + 1) + d = l.length → A.length = l.length → c = compQ (l.take (k + (q + 1))) → A.take c.length = c → A.drop (k + q) = l.drop (k + q) → c.length + 1 ≤ k + (q + 1) → d < n → S.hav [0, 3, 4, 5] = cqS o l.length m k nk mk c.length (q + 1) (gl.set o (cellsQ A ++ rest)) ro →
      ∃ A, A.length = l.length ∧ A.take (compQ l).length = compQ l ∧ (compQ l).length + 1 ≤ l.length ∧ loopA (evC Tryz.prog cf 130 call N (bodyOf Tryz.f130 1)) [0, 3, 4, 5] [2] n S = some (.exit 2, cqS o l.length m k nk mk (compQ l).length nk (gl.set o (cellsQ A ++ rest)) ro)
  | 0, q, A, c, n, S, hd, hA, hc, hAt, hAd, hcl, hn, hS => by
    have e : l.take (k + (q + 1)) = l := List.take_of_length_le (by omega)
    rw [e] at hc
    subst hc
    have hq : q + 1 = nk := by omega
    refine ⟨A, hA, hAt, by omega, ?_⟩
    obtain ⟨n, rfl⟩ : ∃ m, n = m + 1 := ⟨n - 1, by omega⟩
    refine loop_exit ?_
    rw [hS, hq]
    generalize (compQ l).length = i
    simp -implicitDefEqProofs [cqS, bodyOf, loopsOf, hv, Tryz.f130]
  | d + 1, q, A, c, n, S, hd, hA, hc, hAt, hAd, hcl, hn, hS => by
    obtain ⟨n, rfl⟩ : ∃ m, n = m + 1 := ⟨n - 1, by omega⟩
    have cx : l[k + (q + 1)]? = some l[k + (q + 1)] := List.getElem?_eq_getElem (by omega)
    have cy : l[k + q]? = some l[k + q] := List.getElem?_eq_getElem (by omega)
    generalize l[k + (q + 1)] = x at cx
    generalize l[k + q] = y at cy
    have ax : A[k + (q + 1)]? = some x := by rw [drop_get hAd (by omega), cx]
    have ay : A[k + q]? = some y := by rw [drop_get hAd (by omega), cy]
    have ht : l.take (k + (q + 1) + 1) = l.take (k + (q + 1)) ++ [x] := by rw [List.take_add_one, cx]; rfl
    have hla : (l.take (k + (q + 1))).getLast? = some y := by
      rw [List.getLast?_eq_getElem?, List.length_take, List.getElem?_take]
      rw [show min (k + (q + 1)) l.length - 1 = k + q by omega, if_pos (by omega), cy]
    have hs := compQ_snoc x _ y hla
    rw [← ht, ← hc] at hs
    have lc : (cellsQ A ++ rest).length = A.length * 4 + rest.length := by rw [List.length_append, cellsQ_len]
    have gx := cellsQ_get rest A _ x ax
    have gy := cellsQ_get rest A _ y ay
    have gi : c.length < A.length := by omega
    have gp := cellsQ_put rest x A c.length gi
    rw [show (k + (q + 1)) * 4 = k * 4 + (q + 1) * 4 by omega] at gx
    rw [show (k + q) * 4 = k * 4 + q * 4 by omega] at gy
    have hGo : (gl.set o (cellsQ A ++ rest))[o]? = some (cellsQ A ++ rest) := by rw [List.getElem?_set, if_pos rfl, if_pos hg]
    have hGs : ∀ z, (gl.set o (cellsQ A ++ rest)).set o z = gl.set o z := fun z => List.set_set ..
    have k1 : k * 4 + (q + 1) * 4 + 4 ≤ (cellsQ A ++ rest).length := by omega
    have k2 : k * 4 + q * 4 + 4 ≤ (cellsQ A ++ rest).length := by omega
    have k3 : c.length * 4 + 4 ≤ (cellsQ A ++ rest).length := by omega
    have w1 : IntKind.i64.wrap ((q : Int) + 1 + 1) = (q : Int) + 1 + 1 := i64w _ (by omega)
    have w2 : IntKind.i64.wrap (c.length + 1 : Int) = (c.length + 1 : Int) := i64w _ (by omega)
    have w3 : IntKind.i64.wrap (q : Int) = (q : Int) := i64w _ (by omega)
    have j0 : (0 : Int) ≤ (q : Int) + 1 := by omega
    have j1 : (q : Int) + 1 < nk := by omega
    have j2 : (q : Int) < nk := by omega
    have j3 : (c.length : Int) < l.length := by omega
    have hro' : ¬ o < ro := by omega
    have he := eq_q4 x.a x.b x.c x.d y.a y.b y.c y.d
    by_cases hxy : y = x
    · rw [if_pos hxy] at hs
      have hne : decide ((⟨x.a, x.b, x.c, x.d⟩ : Q4) = ⟨y.a, y.b, y.c, y.d⟩) = true := decide_eq_true hxy.symm
      rw [hne] at he
      have step : ((evC Tryz.prog cf 130 call N (bodyOf Tryz.f130 1)) (cqS o l.length m k nk mk c.length (q + 1) (gl.set o (cellsQ A ++ rest)) ro)).map (hv [0, 3, 4, 5]) = some (.normal, cqS o l.length m k nk mk c.length (q + 1 + 1) (gl.set o (cellsQ A ++ rest)) ro) := by
        clear hs hS gp hGs ht hla ax ay
        generalize gl.set o (cellsQ A ++ rest) = G at hGo ⊢
        generalize cellsQ A ++ rest = Z at *
        generalize c.length = i at *
        simp only [Q4.ws] at gx gy
        simp -implicitDefEqProofs [-eqVal, -eqVal.goA, cqS, bodyOf, loopsOf, hv, Tryz.f130, hGo, gx, gy, k1, k2, k3, w1, w2, w3, j0, j1, j2, j3, he]
      obtain ⟨S', hS', e⟩ := loop_on (by rw [hS]; exact step)
      rw [e]
      exact cq_loop call N o m k nk mk l rest hl hk hnk gl ro hg hro d (q + 1) A c n S' (by omega) hA (by rw [← hs]; rfl) hAt (drop_one hAd) (by omega) (by omega) hS'
    · rw [if_neg hxy] at hs
      have hne : decide ((⟨x.a, x.b, x.c, x.d⟩ : Q4) = ⟨y.a, y.b, y.c, y.d⟩) = false := decide_eq_false fun h => hxy h.symm
      rw [hne] at he
      have step : ((evC Tryz.prog cf 130 call N (bodyOf Tryz.f130 1)) (cqS o l.length m k nk mk c.length (q + 1) (gl.set o (cellsQ A ++ rest)) ro)).map (hv [0, 3, 4, 5]) = some (.normal, cqS o l.length m k nk mk (c.length + 1) (q + 1 + 1) (gl.set o (cellsQ (A.set c.length x) ++ rest)) ro) := by
        clear hs hS ht hla ax ay
        have hG2 := hGs (cellsQ (A.set c.length x) ++ rest)
        clear hGs
        generalize gl.set o (cellsQ A ++ rest) = G at hGo hG2 ⊢
        generalize gl.set o (cellsQ (A.set c.length x) ++ rest) = G' at hG2 ⊢
        generalize cellsQ (A.set c.length x) ++ rest = Z' at *
        generalize cellsQ A ++ rest = Z at *
        generalize c.length = i at *
        simp only [Q4.ws, List.cons_append, List.nil_append] at gx gy gp
        simp -implicitDefEqProofs [-eqVal, -eqVal.goA, cqS, bodyOf, loopsOf, hv, Tryz.f130, hGo, gx, gy, gp, hG2, k1, k2, k3, w1, w2, w3, j0, j1, j2, j3, he, hro']
      obtain ⟨S', hS', e⟩ := loop_on (by rw [hS]; exact step)
      rw [e]
      have hcl' : (c ++ [x]).length = c.length + 1 := by simp
      exact cq_loop call N o m k nk mk l rest hl hk hnk gl ro hg hro d (q + 1) (A.set c.length x) (c ++ [x]) n S' (by omega) (by simp [hA]) (by rw [← hs]; rfl) (by rw [hcl', take_set1 _ _ _ gi, hAt]) (by rw [List.drop_set_of_lt (by omega)]; exact drop_one hAd) (by omega) (by omega) (by rw [hcl']; exact hS')
theorem loopA_hav {f : St → Option (Ex × St)} {keep res : List Nat} {n : Nat} {s s' : St} (h : s.hav keep = s'.hav keep) (hn : 0 < n) : loopA f keep res n s = loopA f keep res n s' := by
  obtain ⟨n, rfl⟩ : ∃ m, n = m + 1 := ⟨n - 1, by omega⟩
  simp only [loopA, iter, h]
theorem take_cells {A c : List Q4} (rest : List W) (h : A.take c.length = c) (hl : c.length ≤ A.length) : List.take (c.length * 4) (cellsQ A ++ rest) = cellsQ c := by
  have e : A = c ++ A.drop c.length := by
    conv => lhs; rw [← List.take_append_drop c.length A, h]
  rw [e, cellsQ_app, List.append_assoc, List.take_left' (cellsQ_len c)]
/-- The outer loop: up to the first one that is there twice. -/
theorem cp_loop (call : Caller) (N : Nat) (o m : Nat) (l : List Q4) (rest : List W) (hl : l.length < 1000000) (hm : l.length ≤ m) (gl : List (List W)) (ro : Nat) (hg : gl[o]? = some (cellsQ l ++ rest)) (hro : ro ≤ o) (hN : l.length < N) : ∀ (d i : Nat) (n : Nat) (S : St), i + d = l.length → 1 ≤ i → (∀ j x y, j + 1 < i → l[j]? = some x → l[j + 1]? = some y → x ≠ y) → d < n → S.hav [0, 3] = cpS o l.length m i gl ro →
      ∃ r, ((r.1 = Ex.exit 0 ∧ r.2 = cpS o l.length m l.length gl ro ∧ compQ l = l) ∨ (∃ rest', rest'.length + (compQ l).length * 4 = rest.length + l.length * 4 ∧ r = (Ex.ret, st 61 [(2, .c (.w (.gsl o 0 (compQ l).length m 4)))] [] [] (gl.set o (cellsQ (compQ l) ++ rest')) ro))) ∧ loopA (evC Tryz.prog cf 130 call N (bodyOf Tryz.f130 0)) [0, 3] [2] n S = some r
  | 0, i, n, S, hd, hi, hne, hn, hS => by
    obtain ⟨n, rfl⟩ : ∃ m, n = m + 1 := ⟨n - 1, by omega⟩
    have hil : i = l.length := by omega
    subst hil
    refine ⟨(.exit 0, cpS o l.length m l.length gl ro), .inl ⟨rfl, rfl, compQ_id l fun j x y hx hy => hne j x y (by have := (List.getElem?_eq_some_iff.1 hy).1; omega) hx hy⟩, loop_exit ?_⟩
    rw [hS]
    simp -implicitDefEqProofs [cpS, bodyOf, loopsOf, hv, Tryz.f130]
  | d + 1, i, n, S, hd, hi, hne, hn, hS => by
    obtain ⟨n, rfl⟩ : ∃ m, n = m + 1 := ⟨n - 1, by omega⟩
    obtain ⟨q, rfl⟩ : ∃ q, i = q + 1 := ⟨i - 1, by omega⟩
    have cx : l[q + 1]? = some l[q + 1] := List.getElem?_eq_getElem (by omega)
    have cy : l[q]? = some l[q] := List.getElem?_eq_getElem (by omega)
    generalize l[q + 1] = x at cx
    generalize l[q] = y at cy
    have lc : (cellsQ l ++ rest).length = l.length * 4 + rest.length := by rw [List.length_append, cellsQ_len]
    have gx := cellsQ_get rest l _ x cx
    have gy := cellsQ_get rest l _ y cy
    have k1 : (q + 1) * 4 + 4 ≤ (cellsQ l ++ rest).length := by omega
    have k2 : q * 4 + 4 ≤ (cellsQ l ++ rest).length := by omega
    have w1 : IntKind.i64.wrap ((q : Int) + 1 + 1) = (q : Int) + 1 + 1 := i64w _ (by omega)
    have w3 : IntKind.i64.wrap (q : Int) = (q : Int) := i64w _ (by omega)
    have j0 : (0 : Int) ≤ (q : Int) + 1 := by omega
    have j1 : (q : Int) + 1 < l.length := by omega
    have j2 : (q : Int) < l.length := by omega
    have j3 : (q : Int) + 1 ≤ l.length := by omega
    have hro' : ¬ o < ro := by omega
    have he := eq_q4 x.a x.b x.c x.d y.a y.b y.c y.d
    by_cases hxy : x = y
    · have hne' : decide ((⟨x.a, x.b, x.c, x.d⟩ : Q4) = ⟨y.a, y.b, y.c, y.d⟩) = true := decide_eq_true hxy
      rw [hne'] at he
      have htk : compQ (l.take (q + 1)) = l.take (q + 1) := compQ_id _ fun j x y hx hy => by
        rw [List.getElem?_take] at hx hy
        split at hx
        · split at hy
          · exact hne j x y (by omega) hx hy
          · cases hy
        · cases hx
      have htk2 : compQ (l.take (q + 1 + 1)) = l.take (q + 1) := by
        have ht : l.take (q + 1 + 1) = l.take (q + 1) ++ [x] := by rw [List.take_add_one, cx]; rfl
        have hla : (l.take (q + 1)).getLast? = some y := by
          rw [List.getLast?_eq_getElem?, List.length_take, List.getElem?_take]
          rw [show min (q + 1) l.length - 1 = q by omega, if_pos (by omega), cy]
        rw [ht, compQ_snoc x _ y hla, if_pos hxy.symm, htk]
      have hlen : (l.take (q + 1)).length = q + 1 := by rw [List.length_take]; omega
      have hgl : o < gl.length := (List.getElem?_eq_some_iff.1 hg).1
      have hself : gl.set o (cellsQ l ++ rest) = gl := set_same hg
      obtain ⟨A, hA1, hA2, hA3, hA4⟩ := cq_loop call N o m (q + 1) (l.length - (q + 1)) (m - (q + 1)) l rest hl (by omega) (by omega) gl ro hgl hro (l.length - (q + 2)) 0 l (l.take (q + 1)) N (cqS o l.length m (q + 1) (l.length - (q + 1)) (m - (q + 1)) (q + 1) 1 gl ro) (by omega) rfl (by simpa using htk2.symm) (by rw [hlen]) rfl (by rw [hlen]; omega) (by omega) (by rw [hself, hlen]; simp [cqS])
      have hin : ∀ S : St, S.hav [0, 3, 4, 5] = cqS o l.length m (q + 1) (l.length - (q + 1)) (m - (q + 1)) (q + 1) 1 gl ro → loopC Tryz.prog cf 130 call N (bodyOf Tryz.f130 1) S = some (.exit 2, cqS o l.length m (q + 1) (l.length - (q + 1)) (m - (q + 1)) (compQ l).length (l.length - (q + 1)) (gl.set o (cellsQ A ++ rest)) ro) := fun S hS => by
        rw [← hA4]
        show loopA _ [0, 3, 4, 5] [2] N S = _
        exact loopA_hav (by rw [hS]; simp [cqS]) (by omega)
      clear hA4
      have hcA := take_cells rest hA2 (by omega)
      have lcA : (cellsQ A ++ rest).length = l.length * 4 + rest.length := by rw [List.length_append, cellsQ_len, hA1]
      have hGo : (gl.set o (cellsQ A ++ rest))[o]? = some (cellsQ A ++ rest) := by rw [List.getElem?_set, if_pos rfl, if_pos hgl]
      have hGs : ∀ z, (gl.set o (cellsQ A ++ rest)).set o z = gl.set o z := fun z => List.set_set ..
      generalize hcc : compQ l = c at hin hA2 hA3 hcA
      let zs : List W := [W.d (.int .i64 0), W.d (.int .i64 0), W.d (.int .i64 0), W.d (.int .i64 0)]
      have hR : (repeatW (l.length - c.length) zs).length = (l.length - c.length) * 4 := repeatW_len zs _
      have hp4 : c.length * 4 + (l.length - c.length) * 4 ≤ (cellsQ A ++ rest).length := by omega
      obtain ⟨R, hRe⟩ : ∃ R, repeatW (l.length - c.length) zs = R := ⟨_, rfl⟩
      rw [hRe] at hR
      have hG2 := hGs (cellsQ c ++ (R ++ List.drop (c.length * 4 + (l.length - c.length) * 4) (cellsQ A ++ rest)))
      refine ⟨(.ret, st 61 [(2, .c (.w (.gsl o 0 c.length m 4)))] [] [] (gl.set o (cellsQ c ++ (R ++ List.drop (c.length * 4 + (l.length - c.length) * 4) (cellsQ A ++ rest)))) ro), .inr ⟨_, ?_, rfl⟩, loop_ret ?_⟩
      · rw [List.length_append, hR, List.length_drop, lcA]; omega
      rw [hS]
      have c1 : (c.length : Int) ≤ l.length := by omega
      have c2 : ¬ c.length = m := by omega
      have c3 : (c.length : Int) ≤ m := by omega
      have c4 : ¬ 0 = m := by omega
      have c5 : ¬ m = 0 := by omega
      have c6 : ¬ q + 1 = m := by omega
      have c7 : c.length ≤ l.length := by omega
      clear hGs lcA hS hne hA2 htk htk2 hself
      generalize gl.set o (cellsQ c ++ (R ++ List.drop (c.length * 4 + (l.length - c.length) * 4) (cellsQ A ++ rest))) = G2 at hG2 ⊢
      obtain ⟨Z2, hZ2⟩ : ∃ Z2, cellsQ c ++ (R ++ List.drop (c.length * 4 + (l.length - c.length) * 4) (cellsQ A ++ rest)) = Z2 := ⟨_, rfl⟩
      rw [hZ2] at hG2
      generalize gl.set o (cellsQ A ++ rest) = G at hin hGo hG2
      generalize cellsQ A ++ rest = ZA at hp4 hGo hcA hZ2
      generalize cellsQ l ++ rest = Z at *
      simp only [zs] at hRe
      simp only [Q4.ws] at gx gy
      simp -implicitDefEqProofs [-eqVal, -eqVal.goA, cpS, bodyOf, loopsOf, hv, Tryz.f130, hg, gx, gy, k1, k2, w1, w3, j0, j1, j2, j3, he, c6]
      refine bind_go (hin _ ?_) ?_
      · simp [cqS]
      · simp -implicitDefEqProofs [cqS, hGo, hp4, hRe, hR, hcA, hZ2, hG2, c1, c2, c3, c4, c5, c7, hro, hv]
    · have hne' : decide ((⟨x.a, x.b, x.c, x.d⟩ : Q4) = ⟨y.a, y.b, y.c, y.d⟩) = false := decide_eq_false hxy
      rw [hne'] at he
      have step : ((evC Tryz.prog cf 130 call N (bodyOf Tryz.f130 0)) (cpS o l.length m (q + 1) gl ro)).map (hv [0, 3]) = some (.normal, cpS o l.length m (q + 1 + 1) gl ro) := by
        clear hS hne
        generalize cellsQ l ++ rest = Z at *
        simp only [Q4.ws] at gx gy
        simp -implicitDefEqProofs [-eqVal, -eqVal.goA, cpS, bodyOf, loopsOf, hv, Tryz.f130, hg, gx, gy, k1, k2, w1, w3, j0, j1, j2, he]
      obtain ⟨S', hS', e⟩ := loop_on (by rw [hS]; exact step)
      rw [e]
      refine cp_loop call N o m l rest hl hm gl ro hg hro hN d (q + 1 + 1) n S' (by omega) (by omega) (fun j x' y' hj hx hy => ?_) (by omega) hS'
      by_cases hjq : j = q
      · subst hjq
        rw [cy] at hx
        rw [cx] at hy
        cases hx; cases hy
        exact fun h => hxy h.symm
      · exact hne j x' y' (by omega) hx hy
theorem Compact_ev (l : List Q4) (hl : l.length < 1000000) : Evt fun k => ∀ rest ro gl o m, gl[o]? = some (cellsQ l ++ rest) → ro ≤ o → 0 < l.length → l.length ≤ m → ∃ rest', rest'.length + (compQ l).length * 4 = rest.length + l.length * 4 ∧ ev k 130 [.w (.gsl o 0 l.length m 4)] ro gl = some (.c (.w (.gsl o 0 (compQ l).length m 4)), gl.set o (cellsQ (compQ l) ++ rest')) := by
  refine Evt.up (fun _ q => ∀ (rest : List W) ro gl o m, (gl : List (List W))[o]? = some (cellsQ l ++ rest) → ro ≤ o → 0 < l.length → l.length ≤ m → ∃ rest', rest'.length + (compQ l).length * 4 = rest.length + l.length * 4 ∧ q [.w (.gsl o 0 l.length m 4)] ro gl = some (.c (.w (.gsl o 0 (compQ l).length m 4)), gl.set o (cellsQ (compQ l) ++ rest'))) Tryz.func130 (by kernel_rfl) ((Evt.ge (l.length + 2)).imp fun k hk rest ro gl o m hg hro h0 hm => ?_) fun _ _ h => h
  have hself : gl.set o (cellsQ l ++ rest) = gl := set_same hg
  by_cases h2 : l.length < 2
  · have hid : compQ l = l := by
      match l, h2 with
      | [], _ => rfl
      | [a], _ => rfl
    rw [hid]
    refine ⟨rest, by omega, ?_⟩
    rw [hself]
    have h2' : (l.length : Int) < 2 := by omega
    simp -implicitDefEqProofs [Tryz.f130, h2']
  · have h2' : ¬ (l.length : Int) < 2 := by omega
    obtain ⟨r, hr, hlp⟩ := cp_loop (ev k) k o m l rest hl hm gl ro hg hro (by omega) (l.length - 1) 1 k (cpS o l.length m 1 gl ro) (by omega) (Nat.le_refl _) (fun j x y hj => by omega) (by omega) (by simp [cpS])
    have tail : ∀ S : St, S.hav [0, 3] = cpS o l.length m 1 gl ro → loopC Tryz.prog cf 130 (ev k) k (bodyOf Tryz.f130 0) S = some r := fun S hS => by
      rw [← hlp]
      show loopA _ [0, 3] [2] k S = _
      exact loopA_hav (by rw [hS]; simp [cpS]) (by omega)
    rcases hr with ⟨r1, r2, r3⟩ | ⟨rest', r1, rfl⟩
    · obtain ⟨x, y⟩ := r
      simp only at r1 r2
      subst r1 r2
      rw [r3]
      refine ⟨rest, by omega, ?_⟩
      rw [hself]
      clear hlp
      simp -implicitDefEqProofs [Tryz.f130, h2']
      refine bind_go (tail _ ?_) ?_
      · simp [cpS]
      · simp -implicitDefEqProofs [cpS]
    · refine ⟨rest', r1, ?_⟩
      clear hlp
      simp -implicitDefEqProofs [Tryz.f130, h2']
      refine bind_go (tail _ ?_) ?_
      · simp [cpS]
      · simp -implicitDefEqProofs
end Go.Proofs.YtckonoejmjblfaaGreatDoor.Ev
