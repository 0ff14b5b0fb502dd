/- Layer 6: an expression's text: the program's. -/
import Derived.Test.YtckonoejmjblfaaGreatDoorPkExpD
import Derived.Test.YtckonoejmjblfaaGreatDoorPkTrmB
import Derived.Test.YtckonoejmjblfaaGreatDoorPkNum
set_option linter.unusedVariables false
set_option linter.unusedSimpArgs false
set_option maxRecDepth 100000
set_option maxHeartbeats 4000000
namespace Go.Proofs.YtckonoejmjblfaaGreatDoor.Ev
open Go Go.RowKit

def brk (k least : Int) (s : List UInt8) : List UInt8 := if k < least then 40 :: (s ++ [41]) else s
/-- The text of an expression, without brackets around. -/
def Tr.txt : Tr → List UInt8
  | .leaf t => if t.op = 1 then num t.n else if t.op = 2 then t.name else if t.op = 9 then bTrue else if t.op = 10 then bFalse else 105 :: 110 :: 40 :: (t.name ++ [41])
  | .one t a => if t.op = 3 then 45 :: brk (levelI a.top.op) 7 a.txt else 110 :: 111 :: 116 :: 32 :: brk (levelI a.top.op) 3 a.txt
  | .two t a b => if t.op = 7 then 109 :: 105 :: 110 :: 40 :: (brk (levelI a.top.op) 1 a.txt ++ 44 :: 32 :: (brk (levelI b.top.op) 1 b.txt ++ [41]))
    else if t.op = 8 then 109 :: 97 :: 120 :: 40 :: (brk (levelI a.top.op) 1 a.txt ++ 44 :: 32 :: (brk (levelI b.top.op) 1 b.txt ++ [41]))
    else brk (levelI a.top.op) (leftI t.op) a.txt ++ 32 :: (signB t.op ++ 32 :: brk (levelI b.top.op) (levelI t.op + 1) b.txt)
def Tr.put (e : Tr) (least : Int) : List UInt8 := brk (levelI e.top.op) least e.txt
theorem arity0 {x : Int} (h : arity x = 0) : x = 1 ∨ x = 2 ∨ x = 9 ∨ x = 10 ∨ x = 11 := by
  unfold arity at h
  split at h
  · cases h
  · split at h
    · cases h
    · split at h
      · cases h
      · split at h
        · omega
        · cases h
theorem arity1 {x : Int} (h : arity x = 1) : x = 3 ∨ x = 12 := by
  unfold arity at h
  split at h
  · cases h
  · split at h
    · cases h
    · split at h
      · omega
      · split at h <;> cases h
theorem arity2 {x : Int} (h : arity x = 2) : (4 ≤ x ∧ x ≤ 8) ∨ (13 ≤ x ∧ x ≤ 20) := by
  unfold arity at h
  split at h
  · cases h
  · split at h
    · cases h
    · split at h
      · cases h
      · split at h
        · cases h
        · omega
theorem levelI_two {x : Int} (h : arity x = 2) : 1 ≤ levelI x ∧ levelI x ≤ 8 := by
  unfold levelI
  split
  · omega
  · split
    · omega
    · split
      · omega
      · split
        · omega
        · split
          · omega
          · split
            · omega
            · split <;> omega
theorem may_bd {t : Tm} (h : t.may = true) : t.name.length ≤ 12 ∧ (t.op = 1 → (num t.n).length ≤ 8) := by
  unfold Tm.may at h
  split at h
  · simp only [Bool.and_eq_true, decide_eq_true_eq] at h
    refine ⟨by simp [h.2.2], fun _ => ?_⟩
    have := dg_len t.n.natAbs 6 (by simp; omega)
    unfold num
    split <;> simp <;> omega
  · rename_i h1
    split at h
    · simp only [Bool.and_eq_true, isName, decide_eq_true_eq] at h
      exact ⟨by omega, fun h2 => absurd h2 h1⟩
    · simp only [Bool.and_eq_true, decide_eq_true_eq] at h
      exact ⟨by simp [h.2], fun h2 => absurd h2 h1⟩
theorem brk_len (k m : Int) (s : List UInt8) : (brk k m s).length ≤ s.length + 2 := by
  unfold brk
  split <;> simp
theorem signB_len (x : Int) : (signB x).length ≤ 3 := by
  unfold signB
  repeat (first | split | simp)
theorem txt_len : ∀ (e : Tr), (∀ t ∈ e.flat, t.may = true) → e.txt.length + 2 ≤ 20 * e.flat.length
  | .leaf t, h => by
    have := may_bd (h t (by simp [Tr.flat]))
    simp only [Tr.txt, Tr.flat, List.length_singleton]
    split
    · rename_i h1
      have := this.2 h1
      omega
    · split
      · omega
      · split
        · simp
        · split
          · simp
          · simp; omega
  | .one t a, h => by
    have := txt_len a (fun t ht => h t (by simp [Tr.flat, ht]))
    have b1 := brk_len (levelI a.top.op) 7 a.txt
    have b2 := brk_len (levelI a.top.op) 3 a.txt
    simp only [Tr.txt, Tr.flat, List.length_cons]
    split <;> simp only [List.length_cons] <;> omega
  | .two t a b, h => by
    have i1 := txt_len a (fun t ht => h t (by simp [Tr.flat, ht]))
    have i2 := txt_len b (fun t ht => h t (by simp [Tr.flat, ht]))
    have b1 := brk_len (levelI a.top.op) 1 a.txt
    have b2 := brk_len (levelI b.top.op) 1 b.txt
    have b3 := brk_len (levelI a.top.op) (leftI t.op) a.txt
    have b4 := brk_len (levelI b.top.op) (levelI t.op + 1) b.txt
    have b5 := signB_len t.op
    simp only [Tr.txt, Tr.flat, List.length_cons, List.length_append]
    split
    · simp only [List.length_cons, List.length_append, List.length_nil]; omega
    · split <;> simp only [List.length_cons, List.length_append, List.length_nil] <;> omega
theorem text_of (e : Tr) (hm : ∀ t ∈ e.flat, t.may = true) (l : List Tm) (i : Nat) (h : e.At l i) (hl : l.length < 1000000) (ho : Gives 132 [L (l.map Tm.c), I i] (V.str e.txt)) (least : Int) : Gives 194 [L (l.map Tm.c), I i, I least] (V.str (e.put least)) := by
  have ht := h.top
  have hlt := h.lt
  have hle := h.le
  have hmm : l[i] = e.top := (List.getElem?_eq_some_iff.1 ht).2
  have hx := txt_len e hm
  have b1 : 1 + e.txt.length ≤ 9223372036854775807 := by omega
  have b2 : e.txt.length + 1 + 1 ≤ 9223372036854775807 := by omega
  have b3 : e.txt.length ≤ 9223372036854775805 := by omega
  refine .intro Tryz.func194 (by kernel_rfl) ((ho.and level_ev).imp fun k ⟨h1, h2⟩ ro gl => ?_)
  have h2 := h2 e.top.op
  unfold Tr.put brk
  clear hm
  by_cases hc : levelI e.top.op < least
  · simp -implicitDefEqProofs [Tryz.f194, h1, h2, ht, hlt, hmm, hc, Tm.c, b1, b2, b3]
  · simp -implicitDefEqProofs [Tryz.f194, h1, h2, ht, hlt, hmm, hc, Tm.c]
end Go.Proofs.YtckonoejmjblfaaGreatDoor.Ev

/- Layer 6: an expression's text: the program's. -/
set_option linter.unusedVariables false
set_option linter.unusedSimpArgs false
set_option maxRecDepth 100000
set_option maxHeartbeats 1000000
namespace Go.Proofs.YtckonoejmjblfaaGreatDoor.Ev
open Go Go.RowKit

theorem put_len (e : Tr) (m : Int) (hm : ∀ t ∈ e.flat, t.may = true) : (e.put m).length ≤ 20 * e.flat.length := by
  have h1 := txt_len e hm
  have h2 := brk_len (levelI e.top.op) m e.txt
  unfold Tr.put
  omega
theorem txt_one (t : Tm) (a : Tr) : (Tr.one t a).txt = if t.op = 3 then 45 :: a.put 7 else 110 :: 111 :: 116 :: 32 :: a.put 3 := rfl
theorem txt_two (t : Tm) (a b : Tr) : (Tr.two t a b).txt = if t.op = 7 then 109 :: 105 :: 110 :: 40 :: (a.put 1 ++ 44 :: 32 :: (b.put 1 ++ [41]))
    else if t.op = 8 then 109 :: 97 :: 120 :: 40 :: (a.put 1 ++ 44 :: 32 :: (b.put 1 ++ [41]))
    else a.put (leftI t.op) ++ 32 :: (signB t.op ++ 32 :: b.put (levelI t.op + 1)) := rfl
theorem open_leaf (t : Tm) (hw : (Tr.leaf t).wf) (hmt : t.may = true) (l : List Tm) (i : Nat) (h : (Tr.leaf t).At l i) (hl : l.length < 1000000) : Gives 132 [L (l.map Tm.c), I i] (V.str (Tr.leaf t).txt) := by
  have hb := Below_ev l (by omega) i t h.top (by rw [h.stop hw]; omega)
  have hb' := h.bel hw
  simp only [Tr.top] at hb'
  rw [hb'] at hb
  have ht := h.top
  have hlt := h.lt
  simp only [Tr.top] at ht
  have hmm : l[i] = t := (List.getElem?_eq_some_iff.1 ht).2
  have hp : t.op = 1 → Gives 90 [I t.n] (V.str (num t.n)) := fun h => by
    simp [Tm.may, h] at hmt
    exact Put_ev t.n (by omega)
  have hn := (may_bd hmt).1
  clear hb' hmt
  simp only [Tr.wf] at hw
  obtain ⟨op, n, s⟩ := t
  simp only at hw hp hb ht hn ⊢
  have b1 : 3 + s.length ≤ 9223372036854775807 := by omega
  have b2 : s.length + 1 + 1 + 1 + 1 ≤ 9223372036854775807 := by omega
  have b3 : s.length ≤ 9223372036854775803 := by omega
  rcases arity0 hw with e | e | e | e | e <;> subst e
  · refine .intro Tryz.func132 (by kernel_rfl) ((hb.and (hp rfl)).imp fun k ⟨h1, h2⟩ ro gl => ?_)
    simp -implicitDefEqProofs [Tryz.f132, h1, h2, ht, hlt, hmm, Tm.c, Tr.kids, Tr.txt]
  all_goals
    refine .intro Tryz.func132 (by kernel_rfl) (hb.imp fun k h1 ro gl => ?_)
    simp -implicitDefEqProofs [Tryz.f132, h1, ht, hlt, hmm, Tm.c, Tr.kids, Tr.txt, b1, b2, b3]
theorem open_one (t : Tm) (a : Tr) (hw : (Tr.one t a).wf) (hm : ∀ t ∈ a.flat, t.may = true) (l : List Tm) (i : Nat) (h : (Tr.one t a).At l i) (hl : l.length < 1000000)
    (ha : ∀ m : Int, Gives 194 [L (l.map Tm.c), I (i + 1 : Nat), I m] (V.str (a.put m))) : Gives 132 [L (l.map Tm.c), I i] (V.str (Tr.one t a).txt) := by
  have hb := Below_ev l (by omega) i t h.top (by rw [h.stop hw]; omega)
  have hb' := h.bel hw
  simp only [Tr.top] at hb'
  rw [hb'] at hb
  have ht := h.top
  have hlt := h.lt
  have hle := h.one.le
  simp only [Tr.top] at ht
  have hmm : l[i] = t := (List.getElem?_eq_some_iff.1 ht).2
  simp only [Tr.wf] at hw
  have n7 := put_len a 7 hm
  have n3 := put_len a 3 hm
  rw [txt_one]
  clear hb' hm
  obtain ⟨op, n, s⟩ := t
  simp only at hw hb ht ⊢
  rcases arity1 hw.1 with e | e <;> subst e
  · refine .intro Tryz.func132 (by kernel_rfl) ((hb.and ((ha 7).and level_ev)).imp fun k ⟨h1, h2, h3⟩ ro gl => ?_)
    have h3 := h3 3
    generalize a.put 7 = x at *
    have b1 : 1 + x.length ≤ 9223372036854775807 := by omega
    simp [levelI] at h2 h3
    simp -implicitDefEqProofs [Tryz.f132, h1, h2, h3, ht, hlt, hmm, Tm.c, Tr.kids, b1]
  · refine .intro Tryz.func132 (by kernel_rfl) ((hb.and ((ha 3).and level_ev)).imp fun k ⟨h1, h2, h3⟩ ro gl => ?_)
    have h3 := h3 12
    generalize a.put 3 = x at *
    have b1 : 4 + x.length ≤ 9223372036854775807 := by omega
    simp [levelI] at h2 h3
    simp -implicitDefEqProofs [Tryz.f132, h1, h2, h3, ht, hlt, hmm, Tm.c, Tr.kids, b1]
theorem open_two (t : Tm) (a b : Tr) (hw : (Tr.two t a b).wf) (hma : ∀ t ∈ a.flat, t.may = true) (hmb : ∀ t ∈ b.flat, t.may = true) (l : List Tm) (i : Nat) (h : (Tr.two t a b).At l i) (hl : l.length < 1000000)
    (ha : ∀ m : Int, Gives 194 [L (l.map Tm.c), I (i + 1 : Nat), I m] (V.str (a.put m)))
    (hc : ∀ m : Int, Gives 194 [L (l.map Tm.c), I (i + 1 + a.flat.length : Nat), I m] (V.str (b.put m))) : Gives 132 [L (l.map Tm.c), I i] (V.str (Tr.two t a b).txt) := by
  have hb := Below_ev l (by omega) i t h.top (by rw [h.stop hw]; omega)
  have hb' := h.bel hw
  simp only [Tr.top] at hb'
  rw [hb'] at hb
  have ht := h.top
  have hlt := h.lt
  have hle := h.two.1.le
  have hle2 := h.two.2.le
  simp only [Tr.top] at ht
  have hmm : l[i] = t := (List.getElem?_eq_some_iff.1 ht).2
  simp only [Tr.wf] at hw
  have na := fun m => put_len a m hma
  have nb := fun m => put_len b m hmb
  rw [txt_two]
  clear hb' hma hmb
  obtain ⟨op, n, s⟩ := t
  simp only at hw hb ht ⊢
  by_cases e7 : op = 7
  · subst e7
    refine .intro Tryz.func132 (by kernel_rfl) ((hb.and ((ha 1).and (hc 1))).imp fun k ⟨h1, h2, h3⟩ ro gl => ?_)
    have na := na 1
    have nb := nb 1
    generalize a.put 1 = x at *
    generalize b.put 1 = y at *
    simp at h2 h3
    have b1 : 4 + x.length ≤ 9223372036854775807 := by omega
    have b2 : x.length + 1 + 1 + 1 + 1 + 2 ≤ 9223372036854775807 := by omega
    have b2' : x.length ≤ 9223372036854775801 := by omega
    have b3 : x.length + 2 + 1 + 1 + 1 + 1 + y.length ≤ 9223372036854775807 := by omega
    have b4 : x.length + (y.length + 1 + 1) + 1 + 1 + 1 + 1 + 1 ≤ 9223372036854775807 := by omega
    have b4' : x.length + (y.length + 1 + 1) ≤ 9223372036854775802 := by omega
    simp -implicitDefEqProofs [Tryz.f132, h1, h2, h3, ht, hlt, hmm, Tm.c, Tr.kids, b1, b2, b2', b3, b4, b4']
  · by_cases e8 : op = 8
    · subst e8
      refine .intro Tryz.func132 (by kernel_rfl) ((hb.and ((ha 1).and (hc 1))).imp fun k ⟨h1, h2, h3⟩ ro gl => ?_)
      have na := na 1
      have nb := nb 1
      generalize a.put 1 = x at *
      generalize b.put 1 = y at *
      simp at h2 h3
      have b1 : 4 + x.length ≤ 9223372036854775807 := by omega
      have b2 : x.length + 1 + 1 + 1 + 1 + 2 ≤ 9223372036854775807 := by omega
      have b2' : x.length ≤ 9223372036854775801 := by omega
      have b3 : x.length + 2 + 1 + 1 + 1 + 1 + y.length ≤ 9223372036854775807 := by omega
      have b4 : x.length + (y.length + 1 + 1) + 1 + 1 + 1 + 1 + 1 ≤ 9223372036854775807 := by omega
      have b4' : x.length + (y.length + 1 + 1) ≤ 9223372036854775802 := by omega
      simp -implicitDefEqProofs [Tryz.f132, h1, h2, h3, ht, hlt, hmm, Tm.c, Tr.kids, b1, b2, b2', b3, b4, b4']
    · have h2 := arity2 hw.1
      have hlv := levelI_two hw.1
      have g1 : ¬ op = 1 := by omega
      have g2 : ¬ op = 2 := by omega
      have g3 : ¬ op = 3 := by omega
      have g9 : ¬ op = 9 := by omega
      have g10 : ¬ op = 10 := by omega
      have g11 : ¬ op = 11 := by omega
      have g12 : ¬ op = 12 := by omega
      have w : IntKind.i64.wrap (levelI op + 1) = levelI op + 1 := i64w _ (by omega)
      refine .intro Tryz.func132 (by kernel_rfl) ((hb.and ((ha (leftI op)).and ((hc (levelI op + 1)).and (level_ev.and (left_ev.and sign_ev))))).imp fun k ⟨h1, h2, h3, h4, h5, h6⟩ ro gl => ?_)
      have h4 := h4 op
      have h5 := h5 op
      have h6 := fun ro gl => h6 op ro gl (by omega) (by omega)
      have na := na (leftI op)
      have nb := nb (levelI op + 1)
      have ns := signB_len op
      generalize a.put (leftI op) = x at *
      generalize b.put (levelI op + 1) = y at *
      generalize leftI op = lf at *
      generalize levelI op = lv at *
      generalize signB op = sg at *
      simp at h2 h3
      have b1 : x.length + 1 ≤ 9223372036854775807 := by omega
      have b1' : x.length ≤ 9223372036854775806 := by omega
      have b2 : x.length + 1 + sg.length ≤ 9223372036854775807 := by omega
      have b3 : x.length + (sg.length + 1) + 1 ≤ 9223372036854775807 := by omega
      have b3' : x.length + (sg.length + 1) ≤ 9223372036854775806 := by omega
      have b4 : x.length + (sg.length + 1 + 1) + y.length ≤ 9223372036854775807 := by omega
      simp -implicitDefEqProofs [Tryz.f132, h1, h2, h3, h4, h5, h6, ht, hlt, hmm, w, e7, e8, g1, g2, g3, g9, g10, g11, g12, Tm.c, Tr.kids, b1, b1', b2, b3, b3', b4]
theorem open_ev : ∀ (e : Tr) (hw : e.wf) (hm : ∀ t ∈ e.flat, t.may = true) (l : List Tm) (i : Nat) (h : e.At l i) (hl : l.length < 1000000), Gives 132 [L (l.map Tm.c), I i] (V.str e.txt)
  | .leaf t, hw, hm, l, i, h, hl => open_leaf t hw (hm t (by simp [Tr.flat])) l i h hl
  | .one t a, hw, hm, l, i, h, hl => by
    have ma : ∀ t ∈ a.flat, t.may = true := fun t ht => hm t (by simp [Tr.flat, ht])
    exact open_one t a hw ma l i h hl fun m => text_of a ma l (i + 1) h.one hl (open_ev a hw.2 ma l (i + 1) h.one hl) m
  | .two t a b, hw, hm, l, i, h, hl => by
    have ma : ∀ t ∈ a.flat, t.may = true := fun t ht => hm t (by simp [Tr.flat, ht])
    have mb : ∀ t ∈ b.flat, t.may = true := fun t ht => hm t (by simp [Tr.flat, ht])
    exact open_two t a b hw ma mb l i h hl (fun m => text_of a ma l (i + 1) h.two.1 hl (open_ev a hw.2.1 ma l (i + 1) h.two.1 hl) m) (fun m => text_of b mb l _ h.two.2 hl (open_ev b hw.2.2 mb l _ h.two.2 hl) m)
end Go.Proofs.YtckonoejmjblfaaGreatDoor.Ev
