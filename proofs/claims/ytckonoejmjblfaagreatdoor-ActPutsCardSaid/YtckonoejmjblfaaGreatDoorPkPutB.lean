/- Layer 6: an expression's text: the document's. -/
import Derived.Test.YtckonoejmjblfaaGreatDoorPkPut
import Derived.Test.YtckonoejmjblfaaGreatDoorPkExpA
import Derived.Test.YtckonoejmjblfaaGreatDoorPkTrmB
set_option linter.unusedVariables false
set_option linter.unusedSimpArgs false
set_option maxRecDepth 100000
set_option maxHeartbeats 4000000
namespace Go.Proofs.YtckonoejmjblfaaGreatDoor.Ev
open Go Go.RowKit

def leI (k : Nat) (op : Int) (ops : List Int) (i : Nat) (gl : List (List W)) (ro : Nat) : St := st 33 [(0, .c (I op)), (3, V.int .i64 k), (5, .c (L (ops.map zD))), (6, V.int .i64 i)] [] [] gl ro
def leO (op : Int) (k : Nat) (gl : List (List W)) (ro : Nat) : St := st 33 [(0, .c (I op)), (3, V.int .i64 k)] [] [] gl ro
theorem le_in (q : Nat) (k : Nat) (op : Int) (ops : List Int) (hl : ops.length ≤ 6) (hq : 7 < q) (gl : List (List W)) (ro : Nat) (S : St) (hS : S.hav [0, 3, 5, 6] = leI k op ops 0 gl ro) :
    loopA (evC Tryz.prog cf 133 (ev q) q (bodyOf Tryz.f133 1)) [0, 3, 5, 6] [2] q S = some (if op ∈ ops then (.ret, st 33 [(2, V.int .i64 k)] [] [] gl ro) else (.exit 2, leI k op ops ops.length gl ro)) := by
  refine loop_by (keep := [0, 3, 5, 6]) (res := [2]) (fun i : Nat => leI k op ops i gl ro) (fun i => i ≤ ops.length) (fun i => ops.length - i) (fun i => if op ∈ ops.drop i then (.ret, st 33 [(2, V.int .i64 k)] [] [] gl ro) else (.exit 2, leI k op ops ops.length gl ro)) ?_ q 0 S (Nat.zero_le _) (by omega) hS
  intro i hi
  by_cases hi' : i = ops.length
  · subst hi'
    refine .inr (.inl ⟨2, leI k op ops ops.length gl ro, ?_, ?_⟩)
    · simp -implicitDefEqProofs [leI, bodyOf, loopsOf, hv, Tryz.f133]
    · rw [List.drop_of_length_le (Nat.le_refl _)]; rfl
  · have h1 : i < ops.length := by omega
    have h1' : (i : Int) < ops.length := by omega
    have da : ops.drop i = ops[i] :: ops.drop (i + 1) := List.drop_eq_getElem_cons h1
    have ca : ops[i]? = some ops[i] := List.getElem?_eq_getElem h1
    generalize ops[i] = x at da ca
    have w : IntKind.i64.wrap ((i : Int) + 1) = (i : Int) + 1 := i64w _ (by omega)
    have hx : ops[i] = x := (List.getElem?_eq_some_iff.1 ca).2
    by_cases hp : x = op
    · refine .inr (.inr ⟨st 33 [(2, V.int .i64 k)] [] [] gl ro, ?_, ?_⟩)
      · simp -implicitDefEqProofs [leI, bodyOf, loopsOf, hv, Tryz.f133, h1, h1', hx, w, hp]
      · rw [da, if_pos (by rw [hp]; simp)]
    · refine .inl ⟨i + 1, by omega, by omega, ?_, ?_⟩
      · simp -implicitDefEqProofs [leI, bodyOf, loopsOf, hv, Tryz.f133, h1, h1', hx, w, hp]
      · rw [da]
        have : (op ∈ x :: ops.drop (i + 1)) = (op ∈ ops.drop (i + 1)) := by
          simp only [List.mem_cons, eq_iff_iff]
          exact ⟨fun h => h.resolve_left (fun e => hp e.symm), .inr⟩
        simp only [this]
def lvK (op : Int) : Nat → Option Nat
  | 0 => none
  | n + 1 => if op ∈ opsI (6 - n) then some (6 - n) else lvK op n
def leR (op : Int) (gl : List (List W)) (ro : Nat) : Option Nat → Ex × St
  | some k => (.ret, st 33 [(2, V.int .i64 k)] [] [] gl ro)
  | none => (.exit 0, leO op 7 gl ro)
theorem le_loop (op : Int) : Evt fun q => ∀ gl ro S, S.hav [0, 3] = leO op 1 gl ro →
    loopA (evC Tryz.prog cf 133 (ev q) q (bodyOf Tryz.f133 0)) [0, 3] [2] q S = some (leR op gl ro (lvK op 6)) := by
  have hs : Evt fun q => ∀ k ∈ ([1, 2, 3, 4, 5, 6] : List Nat), ∀ ro gl, ev q 135 [I k] ro gl = some (.tup [L ((signsB k).map sD), L ((opsI k).map zD)], gl) := Evt.all _ fun k hk => Signs_ev k (by simp at hk; omega) (by simp at hk; omega)
  refine (hs.and (Evt.ge 9)).imp fun q ⟨h, hq⟩ gl ro S hS => ?_
  refine loop_by (keep := [0, 3]) (res := [2]) (fun i : Nat => leO op (7 - i) gl ro) (fun i => i ≤ 6) (fun i => i) (fun i => leR op gl ro (lvK op i)) ?_ q 6 S (by omega) (by omega) (by rw [hS])
  intro i hi
  cases i with
  | zero =>
    refine .inr (.inl ⟨0, leO op 7 gl ro, ?_, rfl⟩)
    simp -implicitDefEqProofs [leO, bodyOf, loopsOf, hv, Tryz.f133]
  | succ n =>
    have h := h (6 - n) (by simp; omega)
    have hle : (opsI (6 - n)).length ≤ 6 := by
      have : ∀ k, (opsI k).length ≤ 6 := by
        intro k
        unfold opsI
        split <;> simp
      exact this _
    have e7 : 7 - (n + 1) = 6 - n := by omega
    obtain ⟨k', hk'⟩ : ∃ k', 7 - n = k' := ⟨_, rfl⟩
    have hk6 : ((6 - n : Nat) : Int) ≤ 6 := by omega
    have w : IntKind.i64.wrap (((6 - n : Nat) : Int) + 1) = k' := by rw [i64w _ (by omega)]; omega
    have hlv : lvK op (n + 1) = if op ∈ opsI (6 - n) then some (6 - n) else lvK op n := rfl
    rw [e7]
    generalize 6 - n = k at h hle hk6 w hlv ⊢
    have tail : ∀ S : St, S.hav [0, 3, 5, 6] = leI k op (opsI k) 0 gl ro → loopC Tryz.prog cf 133 (ev q) q (bodyOf Tryz.f133 1) S = _ := fun S hS => le_in q k op (opsI k) hle (by omega) gl ro S hS
    by_cases ho : op ∈ opsI k
    · refine .inr (.inr ⟨st 33 [(2, V.int .i64 k)] [] [] gl ro, ?_, ?_⟩)
      · simp -implicitDefEqProofs [leO, bodyOf, loopsOf, hv, Tryz.f133, h, hk6]
        refine bind_go (tail _ ?_) ?_
        · simp [leI]
        · rw [if_pos ho]; simp -implicitDefEqProofs [hv]
      · simp only [hlv, if_pos ho, leR]
    · refine .inl ⟨n, by omega, by omega, ?_, ?_⟩
      · simp -implicitDefEqProofs [leO, bodyOf, loopsOf, hv, Tryz.f133, h, hk6, hk']
        refine bind_go (tail _ ?_) ?_
        · simp [leI]
        · rw [if_neg ho]; simp -implicitDefEqProofs [hv, leI, w]
      · simp only [hlv, if_neg ho]
theorem lvK_some {op : Int} (h1 : 1 ≤ op) (h2 : op ≤ 20) : (∀ k, lvK op 6 = some k → levelI op = k) ∧ (lvK op 6 = none → levelI op = if op = 12 then 3 else if op = 3 then 7 else 8) := by
  rcases twenty (x := op) (by omega) (by omega) with h | h | h | h | h | h | h | h | h | h | h | h | h | h | h | h | h | h | h | h <;> subst h <;>
    refine ⟨fun k hk => ?_, fun hk => ?_⟩ <;> first | (simp [lvK, opsI] at hk; done) | (simp [lvK, opsI] at hk; subst hk; rfl) | rfl
theorem rLevel_ev (op : Int) (h1 : 1 ≤ op) (h2 : op ≤ 20) : Gives 133 [I op] (V.int .i64 (levelI op)) := by
  obtain ⟨l1, l2⟩ := lvK_some h1 h2
  refine .intro Tryz.func133 (by kernel_rfl) ((le_loop op).imp fun k h ro gl => ?_)
  have tail : ∀ S : St, S.hav [0, 3] = leO op 1 gl gl.length → loopC Tryz.prog cf 133 (ev k) k (bodyOf Tryz.f133 0) S = _ := fun S hS => h gl gl.length S hS
  simp -implicitDefEqProofs [Tryz.f133]
  refine bind_go (tail _ ?_) ?_
  · simp [leO]
  · cases hk : lvK op 6 with
    | some q => simp -implicitDefEqProofs [leR, l1 q hk]
    | none =>
      rw [l2 hk]
      by_cases e1 : op = 12
      · simp -implicitDefEqProofs [leR, leO, e1]
      · by_cases e2 : op = 3
        · simp -implicitDefEqProofs [leR, leO, e2]
        · simp -implicitDefEqProofs [leR, leO, e1, e2]
end Go.Proofs.YtckonoejmjblfaaGreatDoor.Ev

/- Layer 6: an expression's text: the document's. -/
set_option linter.unusedVariables false
set_option linter.unusedSimpArgs false
set_option maxRecDepth 100000
set_option maxHeartbeats 4000000
namespace Go.Proofs.YtckonoejmjblfaaGreatDoor.Ev
open Go Go.RowKit

def pusS (l : List Tm) (least lv : Int) (ks : List Nat) (t : Tm) (sg : List (List UInt8)) (ops : List Int) (cur : List UInt8) (i : Nat) (gl : List (List W)) (ro : Nat) : St :=
  st 150 [(0, .c (L (l.map Tm.c))), (2, .c (I least)), (7, .c (.w (.box 7 0))), (8, .c (I lv)), (10, .c (L (ks.map iD))), (11, .c (L (sg.map sD))), (12, .c (L (ops.map zD))), (13, .c (T cur)), (14, V.int .i64 i)]
    [(7, [.d (.int .i64 t.op), .d (.int .i64 t.n), .d (.str t.name)])] [] gl ro
def curS (op : Int) (ops : List Int) : List UInt8 := if op ∈ ops then signB op else []
theorem pus_loop (q : Nat) (l : List Tm) (least lv : Int) (ks : List Nat) (t : Tm) (ops : List Int) (hl : ops.length ≤ 6) (hq : 7 < q) (gl : List (List W)) (ro : Nat) (S : St) (hS : S.hav [0, 2, 7, 8, 10, 11, 12, 13, 14] = pusS l least lv ks t (ops.map signB) ops [] 0 gl ro) :
    loopA (evC Tryz.prog cf 78 (ev q) q (bodyOf Tryz.f78 0)) [0, 2, 7, 8, 10, 11, 12, 13, 14] [] q S = some (.exit 1, pusS l least lv ks t (ops.map signB) ops (curS t.op ops) ops.length gl ro) := by
  refine loop_by (keep := [0, 2, 7, 8, 10, 11, 12, 13, 14]) (res := []) (fun i : Nat => pusS l least lv ks t (ops.map signB) ops (curS t.op (ops.take i)) i gl ro) (fun i => i ≤ ops.length) (fun i => ops.length - i) (fun _ => (.exit 1, pusS l least lv ks t (ops.map signB) ops (curS t.op ops) ops.length gl ro)) ?_ q 0 S (Nat.zero_le _) (by omega) hS
  intro i hi
  by_cases hi' : i = ops.length
  · subst hi'
    refine .inr (.inl ⟨1, pusS l least lv ks t (ops.map signB) ops (curS t.op ops) ops.length gl ro, ?_, rfl⟩)
    rw [List.take_of_length_le (Nat.le_refl _)]
    simp -implicitDefEqProofs [pusS, bodyOf, loopsOf, hv, Tryz.f78]
  · have h1 : i < ops.length := by omega
    have h1' : (i : Int) < ops.length := by omega
    have ta : ops.take (i + 1) = ops.take i ++ [ops[i]] := by rw [List.take_add_one, List.getElem?_eq_getElem h1]; rfl
    have ca : ops[i]? = some ops[i] := List.getElem?_eq_getElem h1
    generalize ops[i] = x at ta ca
    have w : IntKind.i64.wrap ((i : Int) + 1) = (i : Int) + 1 := i64w _ (by omega)
    have hx : ops[i] = x := (List.getElem?_eq_some_iff.1 ca).2
    refine .inl ⟨i + 1, by omega, by omega, ?_, rfl⟩
    by_cases hp : x = t.op
    · have hc : curS t.op (ops.take (i + 1)) = signB x := by
        unfold curS
        rw [ta, if_pos (by simp [hp]), hp]
      rw [hc]
      simp -implicitDefEqProofs [pusS, bodyOf, loopsOf, hv, Tryz.f78, h1, h1', hx, w, hp]
    · have hc : curS t.op (ops.take (i + 1)) = curS t.op (ops.take i) := by
        unfold curS
        rw [ta]
        have : (t.op ∈ ops.take i ++ [x]) = (t.op ∈ ops.take i) := by
          simp only [List.mem_append, List.mem_singleton, eq_iff_iff]
          exact ⟨fun h => h.resolve_right (fun e => hp e.symm), .inl⟩
        simp only [this]
      rw [hc]
      simp -implicitDefEqProofs [pusS, bodyOf, loopsOf, hv, Tryz.f78, h1, h1', hx, w, hp]
section
variable (l : List Tm) (i : Nat) (least : Int)
theorem rPut_leaf (t : Tm) (hw : (Tr.leaf t).wf) (hmt : t.may = true) (h : (Tr.leaf t).At l i) (hl : l.length < 1000000) : Gives 78 [L (l.map Tm.c), I i, I least] (V.str ((Tr.leaf t).put least)) := by
  have hb := rBelow_ev l (by omega) i t h.top (by rw [h.stop hw]; omega)
  have hb' := h.bel hw
  simp only [Tr.top] at hb'
  rw [hb'] at hb
  have ht := h.top
  have hlt := h.lt
  simp only [Tr.top] at ht
  have hmm : l[i] = t := (List.getElem?_eq_some_iff.1 ht).2
  have hp : t.op = 1 → Gives 113 [I t.n] (V.str (num t.n)) := fun h => by
    simp [Tm.may, h] at hmt
    obtain ⟨m, hm⟩ : ∃ m : Nat, t.n = m := ⟨t.n.toNat, by omega⟩
    rw [hm, num, if_neg (by omega)]
    exact Text_ev m (by omega)
  have hn := (may_bd hmt).1
  have hnn := (may_bd hmt).2
  clear hb' hmt
  simp only [Tr.wf] at hw
  have hlv := rLevel_ev t.op (by have := arity0 hw; omega) (by have := arity0 hw; omega)
  have l8 : levelI t.op = 8 := by rcases arity0 hw with e | e | e | e | e <;> rw [e] <;> rfl
  rw [l8] at hlv
  unfold Tr.put brk
  simp only [Tr.top, l8]
  obtain ⟨op, n, s⟩ := t
  simp only at hw hp hb ht hn hnn hlv ⊢
  have b1 : 3 + s.length ≤ 9223372036854775807 := by omega
  have b2 : s.length + 1 + 1 + 1 + 1 ≤ 9223372036854775807 := by omega
  have b3 : s.length ≤ 9223372036854775803 := by omega
  have b4 : s.length ≤ 9223372036854775805 := by omega
  have b5 : 1 + s.length ≤ 9223372036854775807 := by omega
  have b6 : s.length + 1 + 1 ≤ 9223372036854775807 := by omega
  have b7 : s.length ≤ 9223372036854775801 := by omega
  have b8 : 1 + (s.length + 1 + 1 + 1 + 1) ≤ 9223372036854775807 := by omega
  have b9 : s.length + 1 + 1 + 1 + 1 + 1 + 1 ≤ 9223372036854775807 := by omega
  by_cases hc : 8 < least
  · rcases arity0 hw with e | e | e | e | e <;> subst e
    · have hnn := hnn rfl
      refine .intro Tryz.func78 (by kernel_rfl) ((hb.and (hlv.and (hp rfl))).imp fun k ⟨h1, h2, h3⟩ ro gl => ?_)
      obtain ⟨x, hxn⟩ : ∃ x, num n = x := ⟨_, rfl⟩
      rw [hxn] at h3 hnn
      have c1 : 1 + x.length ≤ 9223372036854775807 := by omega
      have c2 : x.length + 1 + 1 ≤ 9223372036854775807 := by omega
      have c3 : x.length ≤ 9223372036854775805 := by omega
      simp -implicitDefEqProofs [Tryz.f78, h1, h2, h3, ht, hlt, hmm, Tm.c, Tr.kids, Tr.txt, hc, c1, c2, c3, hxn]
    all_goals
      refine .intro Tryz.func78 (by kernel_rfl) ((hb.and hlv).imp fun k ⟨h1, h2⟩ ro gl => ?_)
      simp -implicitDefEqProofs [Tryz.f78, h1, h2, ht, hlt, hmm, Tm.c, Tr.kids, Tr.txt, hc, b1, b2, b3, b4, b5, b6, b7, b8, b9]
  · rcases arity0 hw with e | e | e | e | e <;> subst e
    · refine .intro Tryz.func78 (by kernel_rfl) ((hb.and (hlv.and (hp rfl))).imp fun k ⟨h1, h2, h3⟩ ro gl => ?_)
      simp -implicitDefEqProofs [Tryz.f78, h1, h2, h3, ht, hlt, hmm, Tm.c, Tr.kids, Tr.txt, hc]
    all_goals
      refine .intro Tryz.func78 (by kernel_rfl) ((hb.and hlv).imp fun k ⟨h1, h2⟩ ro gl => ?_)
      simp -implicitDefEqProofs [Tryz.f78, h1, h2, ht, hlt, hmm, Tm.c, Tr.kids, Tr.txt, hc, b1, b2, b3]
theorem rPut_one (t : Tm) (a : Tr) (hw : (Tr.one t a).wf) (hm : ∀ t ∈ a.flat, t.may = true) (h : (Tr.one t a).At l i) (hl : l.length < 1000000)
    (ha : ∀ m : Int, Gives 78 [L (l.map Tm.c), I (i + 1 : Nat), I m] (V.str (a.put m))) : Gives 78 [L (l.map Tm.c), I i, I least] (V.str ((Tr.one t a).put least)) := by
  have hb := rBelow_ev l (by omega) i t h.top (by rw [h.stop hw]; omega)
  have hb' := h.bel hw
  simp only [Tr.top] at hb'
  rw [hb'] at hb
  have ht := h.top
  have hlt := h.lt
  have hle := h.one.le
  simp only [Tr.top] at ht
  have hmm : l[i] = t := (List.getElem?_eq_some_iff.1 ht).2
  simp only [Tr.wf] at hw
  have n7 := put_len a 7 hm
  have n3 := put_len a 3 hm
  have hlv := rLevel_ev t.op (by have := arity1 hw.1; omega) (by have := arity1 hw.1; omega)
  unfold Tr.put
  rw [txt_one]
  unfold brk
  simp only [Tr.top]
  clear hb' hm
  obtain ⟨op, n, s⟩ := t
  simp only at hw hb ht hlv ⊢
  rcases arity1 hw.1 with e | e <;> subst e
  · simp only [show levelI 3 = 7 from rfl] at hlv ⊢
    by_cases hc : 7 < least
    · refine .intro Tryz.func78 (by kernel_rfl) ((hb.and ((ha 7).and hlv)).imp fun k ⟨h1, h2, h3⟩ ro gl => ?_)
      generalize a.put 7 = x at *
      have b1 : 1 + x.length ≤ 9223372036854775807 := by omega
      have b2 : 1 + (x.length + 1) ≤ 9223372036854775807 := by omega
      have b3 : x.length + 1 + 1 + 1 ≤ 9223372036854775807 := by omega
      have b4 : x.length ≤ 9223372036854775804 := by omega
      simp at h2 h3
      simp -implicitDefEqProofs [Tryz.f78, h1, h2, h3, ht, hlt, hmm, Tm.c, Tr.kids, hc, b1, b2, b3, b4]
    · refine .intro Tryz.func78 (by kernel_rfl) ((hb.and ((ha 7).and hlv)).imp fun k ⟨h1, h2, h3⟩ ro gl => ?_)
      generalize a.put 7 = x at *
      have b1 : 1 + x.length ≤ 9223372036854775807 := by omega
      simp at h2 h3
      simp -implicitDefEqProofs [Tryz.f78, h1, h2, h3, ht, hlt, hmm, Tm.c, Tr.kids, hc, b1]
  · simp only [show levelI 12 = 3 from rfl] at hlv ⊢
    by_cases hc : 3 < least
    · refine .intro Tryz.func78 (by kernel_rfl) ((hb.and ((ha 3).and hlv)).imp fun k ⟨h1, h2, h3⟩ ro gl => ?_)
      generalize a.put 3 = x at *
      have b1 : 4 + x.length ≤ 9223372036854775807 := by omega
      have b2 : 1 + (x.length + 1 + 1 + 1 + 1) ≤ 9223372036854775807 := by omega
      have b3 : x.length + 1 + 1 + 1 + 1 + 1 + 1 ≤ 9223372036854775807 := by omega
      have b4 : x.length ≤ 9223372036854775801 := by omega
      simp at h2 h3
      simp -implicitDefEqProofs [Tryz.f78, h1, h2, h3, ht, hlt, hmm, Tm.c, Tr.kids, hc, b1, b2, b3, b4]
    · refine .intro Tryz.func78 (by kernel_rfl) ((hb.and ((ha 3).and hlv)).imp fun k ⟨h1, h2, h3⟩ ro gl => ?_)
      generalize a.put 3 = x at *
      have b1 : 4 + x.length ≤ 9223372036854775807 := by omega
      simp at h2 h3
      simp -implicitDefEqProofs [Tryz.f78, h1, h2, h3, ht, hlt, hmm, Tm.c, Tr.kids, hc, b1]
theorem rPut_mm (t : Tm) (a b : Tr) (ho : t.op = 7 ∨ t.op = 8) (hw : (Tr.two t a b).wf) (hma : ∀ t ∈ a.flat, t.may = true) (hmb : ∀ t ∈ b.flat, t.may = true) (h : (Tr.two t a b).At l i) (hl : l.length < 1000000)
    (ha : ∀ m : Int, Gives 78 [L (l.map Tm.c), I (i + 1 : Nat), I m] (V.str (a.put m)))
    (hc : ∀ m : Int, Gives 78 [L (l.map Tm.c), I (i + 1 + a.flat.length : Nat), I m] (V.str (b.put m))) : Gives 78 [L (l.map Tm.c), I i, I least] (V.str ((Tr.two t a b).put least)) := by
  have hb := rBelow_ev l (by omega) i t h.top (by rw [h.stop hw]; omega)
  have hb' := h.bel hw
  simp only [Tr.top] at hb'
  rw [hb'] at hb
  have ht := h.top
  have hlt := h.lt
  have hle := h.two.1.le
  have hle2 := h.two.2.le
  simp only [Tr.top] at ht
  have hmm : l[i] = t := (List.getElem?_eq_some_iff.1 ht).2
  have na := put_len a 1 hma
  have nb := put_len b 1 hmb
  have hlv := rLevel_ev t.op (by omega) (by omega)
  unfold Tr.put
  rw [txt_two]
  unfold brk
  simp only [Tr.top]
  clear hb' hma hmb hw
  obtain ⟨op, n, s⟩ := t
  simp only at ho hb ht hlv ⊢
  have ha := ha 1
  have hc := hc 1
  generalize a.put 1 = x at *
  generalize b.put 1 = y at *
  have b1 : 4 + x.length ≤ 9223372036854775807 := by omega
  have b2 : x.length + 1 + 1 + 1 + 1 + 2 ≤ 9223372036854775807 := by omega
  have b2' : x.length ≤ 9223372036854775801 := by omega
  have b3 : x.length + 2 + 1 + 1 + 1 + 1 + y.length ≤ 9223372036854775807 := by omega
  have b4 : x.length + (y.length + 1 + 1) + 1 + 1 + 1 + 1 + 1 ≤ 9223372036854775807 := by omega
  have b4' : x.length + (y.length + 1 + 1) ≤ 9223372036854775802 := by omega
  have b5 : x.length + (y.length + 1 + 1 + 1) + 1 + 1 + 1 + 1 + 1 + 1 ≤ 9223372036854775807 := by omega
  have b5' : x.length + (y.length + 1 + 1 + 1) ≤ 9223372036854775801 := by omega
  have b6 : 1 + (x.length + (y.length + 1 + 1 + 1) + 1 + 1 + 1 + 1) ≤ 9223372036854775807 := by omega
  have b6' : x.length + (y.length + 1 + 1 + 1) ≤ 9223372036854775800 := by omega
  rcases ho with e | e <;> subst e
  · simp only [show levelI 7 = 8 from rfl] at hlv ⊢
    by_cases hlst : 8 < least
    · refine .intro Tryz.func78 (by kernel_rfl) ((hb.and (ha.and (hc.and hlv))).imp fun k ⟨h1, h2, h3, h4⟩ ro gl => ?_)
      simp at h2 h3 h4
      simp -implicitDefEqProofs [Tryz.f78, h1, h2, h3, h4, ht, hlt, hmm, Tm.c, Tr.kids, hlst, b1, b2, b2', b3, b4, b4', b5, b5', b6, b6']
    · refine .intro Tryz.func78 (by kernel_rfl) ((hb.and (ha.and (hc.and hlv))).imp fun k ⟨h1, h2, h3, h4⟩ ro gl => ?_)
      simp at h2 h3 h4
      simp -implicitDefEqProofs [Tryz.f78, h1, h2, h3, h4, ht, hlt, hmm, Tm.c, Tr.kids, hlst, b1, b2, b2', b3, b4, b4']
  · simp only [show levelI 8 = 8 from rfl] at hlv ⊢
    by_cases hlst : 8 < least
    · refine .intro Tryz.func78 (by kernel_rfl) ((hb.and (ha.and (hc.and hlv))).imp fun k ⟨h1, h2, h3, h4⟩ ro gl => ?_)
      simp at h2 h3 h4
      simp -implicitDefEqProofs [Tryz.f78, h1, h2, h3, h4, ht, hlt, hmm, Tm.c, Tr.kids, hlst, b1, b2, b2', b3, b4, b4', b5, b5', b6, b6']
    · refine .intro Tryz.func78 (by kernel_rfl) ((hb.and (ha.and (hc.and hlv))).imp fun k ⟨h1, h2, h3, h4⟩ ro gl => ?_)
      simp at h2 h3 h4
      simp -implicitDefEqProofs [Tryz.f78, h1, h2, h3, h4, ht, hlt, hmm, Tm.c, Tr.kids, hlst, b1, b2, b2', b3, b4, b4']
end
end Go.Proofs.YtckonoejmjblfaaGreatDoor.Ev

/- Layer 6: an expression's text: the document's. -/
set_option linter.unusedVariables false
set_option linter.unusedSimpArgs false
set_option maxRecDepth 100000
set_option maxHeartbeats 4000000
namespace Go.Proofs.YtckonoejmjblfaaGreatDoor.Ev
open Go Go.RowKit

theorem op_in {x : Int} (h : arity x = 2) (h7 : x ≠ 7) (h8 : x ≠ 8) : ∃ L : Nat, levelI x = L ∧ x ∈ opsI L ∧ 1 ≤ L ∧ L ≤ 6 := by
  have := arity2 h
  have hx : x = 4 ∨ x = 5 ∨ x = 6 ∨ x = 13 ∨ x = 14 ∨ x = 15 ∨ x = 16 ∨ x = 17 ∨ x = 18 ∨ x = 19 ∨ x = 20 := by omega
  rcases hx with rfl | rfl | rfl | rfl | rfl | rfl | rfl | rfl | rfl | rfl | rfl
  · exact ⟨5, rfl, by decide, by decide, by decide⟩
  · exact ⟨5, rfl, by decide, by decide, by decide⟩
  · exact ⟨6, rfl, by decide, by decide, by decide⟩
  · exact ⟨4, rfl, by decide, by decide, by decide⟩
  · exact ⟨4, rfl, by decide, by decide, by decide⟩
  · exact ⟨4, rfl, by decide, by decide, by decide⟩
  · exact ⟨4, rfl, by decide, by decide, by decide⟩
  · exact ⟨4, rfl, by decide, by decide, by decide⟩
  · exact ⟨4, rfl, by decide, by decide, by decide⟩
  · exact ⟨2, rfl, by decide, by decide, by decide⟩
  · exact ⟨1, rfl, by decide, by decide, by decide⟩
theorem opsI_len (k : Nat) : (opsI k).length ≤ 6 := by
  unfold opsI
  split <;> simp
section
variable (l : List Tm) (i : Nat) (least : Int)
theorem rPut_two (t : Tm) (a b : Tr) (h7 : t.op ≠ 7) (h8 : t.op ≠ 8) (hw : (Tr.two t a b).wf) (hma : ∀ t ∈ a.flat, t.may = true) (hmb : ∀ t ∈ b.flat, t.may = true) (h : (Tr.two t a b).At l i) (hl : l.length < 1000000)
    (ha : ∀ m : Int, Gives 78 [L (l.map Tm.c), I (i + 1 : Nat), I m] (V.str (a.put m)))
    (hc : ∀ m : Int, Gives 78 [L (l.map Tm.c), I (i + 1 + a.flat.length : Nat), I m] (V.str (b.put m))) : Gives 78 [L (l.map Tm.c), I i, I least] (V.str ((Tr.two t a b).put least)) := by
  have hb := rBelow_ev l (by omega) i t h.top (by rw [h.stop hw]; omega)
  have hb' := h.bel hw
  simp only [Tr.top] at hb'
  rw [hb'] at hb
  have ht := h.top
  have hlt := h.lt
  have hle := h.two.1.le
  have hle2 := h.two.2.le
  simp only [Tr.top] at ht
  have hmm : l[i] = t := (List.getElem?_eq_some_iff.1 ht).2
  simp only [Tr.wf] at hw
  have hop := arity2 hw.1
  have hlv := rLevel_ev t.op (by omega) (by omega)
  obtain ⟨L', hL, hin, L1, L6⟩ := op_in hw.1 h7 h8
  have hF : leftI t.op = if L' = 4 then 5 else (L' : Int) := by
    unfold leftI
    rw [hL]
    by_cases h4 : L' = 4
    · rw [if_pos (by omega), if_pos h4]
    · rw [if_neg (by omega), if_neg h4]
  have na := put_len a (leftI t.op) hma
  have nb := put_len b (levelI t.op + 1) hmb
  have hsg := Signs_ev L' (by omega) (by omega)
  have ns := signB_len t.op
  unfold Tr.put
  rw [txt_two, if_neg h7, if_neg h8]
  unfold brk
  simp only [Tr.top]
  have ha := ha (leftI t.op)
  have hc := hc (levelI t.op + 1)
  clear hb' hma hmb hw
  have hcur : curS t.op (opsI L') = signB t.op := by unfold curS; rw [if_pos hin]
  have hlo := opsI_len L'
  simp only [hL] at hlv hc nb ⊢
  simp only [hF] at ha na ⊢
  obtain ⟨op, n, s⟩ := t
  simp only at h7 h8 hop hb ht hlv hL hin hF ns hcur ha hc na nb ⊢
  have g1 : ¬ op = 1 := by rintro rfl; simp [levelI] at hL; omega
  have g2 : ¬ op = 2 := by rintro rfl; simp [levelI] at hL; omega
  have g3 : ¬ op = 3 := by rintro rfl; simp [levelI] at hL; omega
  have g9 : ¬ op = 9 := by omega
  have g10 : ¬ op = 10 := by omega
  have g11 : ¬ op = 11 := by omega
  have g12 : ¬ op = 12 := by omega
  have g8 : (L' : Int) < 8 := by omega
  have w : IntKind.i64.wrap ((L' : Int) + 1) = (L' : Int) + 1 := i64w _ (by omega)
  generalize signB op = sg at *
  generalize b.put ((L' : Int) + 1) = y at *
  have key : ∀ (F : Int) (x : List UInt8), (if L' = 4 then 5 else (L' : Int)) = F → x.length ≤ 20 * a.flat.length → Gives 78 [L (l.map Tm.c), I (i + 1 : Nat), I F] (V.str x) →
      Gives 78 [L (l.map Tm.c), I i, I least] (V.str (if (L' : Int) < least then 40 :: ((x ++ 32 :: (sg ++ 32 :: y)) ++ [41]) else x ++ 32 :: (sg ++ 32 :: y))) := by
    intro F x hF' na ha
    have b1 : x.length + 1 ≤ 9223372036854775807 := by omega
    have b1' : x.length ≤ 9223372036854775806 := by omega
    have b2 : x.length + 1 + sg.length ≤ 9223372036854775807 := by omega
    have b3 : x.length + (sg.length + 1) + 1 ≤ 9223372036854775807 := by omega
    have b3' : x.length + (sg.length + 1) ≤ 9223372036854775806 := by omega
    have b4 : x.length + (sg.length + 1 + 1) + y.length ≤ 9223372036854775807 := by omega
    have b5 : 1 + (x.length + (sg.length + (y.length + 1) + 1)) ≤ 9223372036854775807 := by omega
    have b6 : x.length + (sg.length + (y.length + 1) + 1) + 1 + 1 ≤ 9223372036854775807 := by omega
    have b6' : x.length + (sg.length + (y.length + 1) + 1) ≤ 9223372036854775805 := by omega
    refine .intro Tryz.func78 (by kernel_rfl) ((hb.and (ha.and (hc.and (hlv.and (hsg.and (Evt.ge 9)))))).imp fun k ⟨h1, h2, h3, h4, h5, hk⟩ ro gl => ?_)
    have tail : ∀ S : St, S.hav [0, 2, 7, 8, 10, 11, 12, 13, 14] = pusS l least L' ((Tr.two ⟨op, n, s⟩ a b).kids i) ⟨op, n, s⟩ ((opsI L').map signB) (opsI L') [] 0 gl gl.length → loopC Tryz.prog cf 78 (ev k) k (bodyOf Tryz.f78 0) S = _ := fun S hS => pus_loop k l least L' ((Tr.two ⟨op, n, s⟩ a b).kids i) ⟨op, n, s⟩ (opsI L') hlo (by omega) gl gl.length S hS
    rw [hcur] at tail
    unfold signsB at h5
    simp at h2 h3 h4
    by_cases hlst : (L' : Int) < least
    · by_cases h4' : L' = 4
      · rw [if_pos h4'] at hF'
        subst hF'
        have j4 : ((L' : Int) = 4) = True := by simp; omega
        simp -implicitDefEqProofs [Tryz.f78, h1, h4, h5, ht, hlt, hmm, g1, g2, g3, h7, h8, g8, g9, g10, g11, g12, Tm.c, Tr.kids]
        refine bind_go (tail _ ?_) ?_
        · simp [pusS, Tr.kids]
        · simp -implicitDefEqProofs [pusS, h2, h3, w, j4, Tr.kids, hlst, b1, b1', b2, b3, b3', b4, b5, b6, b6']
      · rw [if_neg h4'] at hF'
        subst hF'
        have j4 : ¬ (L' : Int) = 4 := by omega
        simp -implicitDefEqProofs [Tryz.f78, h1, h4, h5, ht, hlt, hmm, g1, g2, g3, h7, h8, g8, g9, g10, g11, g12, Tm.c, Tr.kids]
        refine bind_go (tail _ ?_) ?_
        · simp [pusS, Tr.kids]
        · simp -implicitDefEqProofs [pusS, h2, h3, w, h4', j4, Tr.kids, hlst, b1, b1', b2, b3, b3', b4, b5, b6, b6']
    · by_cases h4' : L' = 4
      · rw [if_pos h4'] at hF'
        subst hF'
        have j4 : ((L' : Int) = 4) = True := by simp; omega
        simp -implicitDefEqProofs [Tryz.f78, h1, h4, h5, ht, hlt, hmm, g1, g2, g3, h7, h8, g8, g9, g10, g11, g12, Tm.c, Tr.kids]
        refine bind_go (tail _ ?_) ?_
        · simp [pusS, Tr.kids]
        · simp -implicitDefEqProofs [pusS, h2, h3, w, j4, Tr.kids, hlst, b1, b1', b2, b3, b3', b4]
      · rw [if_neg h4'] at hF'
        subst hF'
        have j4 : ¬ (L' : Int) = 4 := by omega
        simp -implicitDefEqProofs [Tryz.f78, h1, h4, h5, ht, hlt, hmm, g1, g2, g3, h7, h8, g8, g9, g10, g11, g12, Tm.c, Tr.kids]
        refine bind_go (tail _ ?_) ?_
        · simp [pusS, Tr.kids]
        · simp -implicitDefEqProofs [pusS, h2, h3, w, h4', j4, Tr.kids, hlst, b1, b1', b2, b3, b3', b4]
  exact key _ _ rfl na ha
end
theorem rPutE_ev : ∀ (e : Tr) (hw : e.wf) (hm : ∀ t ∈ e.flat, t.may = true) (l : List Tm) (i : Nat) (least : Int) (h : e.At l i) (hl : l.length < 1000000), Gives 78 [L (l.map Tm.c), I i, I least] (V.str (e.put least))
  | .leaf t, hw, hm, l, i, least, h, hl => rPut_leaf l i least t hw (hm t (by simp [Tr.flat])) h hl
  | .one t a, hw, hm, l, i, least, h, hl => by
    have ma : ∀ t ∈ a.flat, t.may = true := fun t ht => hm t (by simp [Tr.flat, ht])
    exact rPut_one l i least t a hw ma h hl fun m => rPutE_ev a hw.2 ma l (i + 1) m h.one hl
  | .two t a b, hw, hm, l, i, least, h, hl => by
    have ma : ∀ t ∈ a.flat, t.may = true := fun t ht => hm t (by simp [Tr.flat, ht])
    have mb : ∀ t ∈ b.flat, t.may = true := fun t ht => hm t (by simp [Tr.flat, ht])
    have ia := fun m => rPutE_ev a hw.2.1 ma l (i + 1) m h.two.1 hl
    have ib := fun m => rPutE_ev b hw.2.2 mb l (i + 1 + a.flat.length) m h.two.2 hl
    by_cases h7 : t.op = 7
    · exact rPut_mm l i least t a b (.inl h7) hw ma mb h hl ia ib
    · by_cases h8 : t.op = 8
      · exact rPut_mm l i least t a b (.inr h8) hw ma mb h hl ia ib
      · exact rPut_two l i least t a b h7 h8 hw ma mb h hl ia ib
end Go.Proofs.YtckonoejmjblfaaGreatDoor.Ev
