/- Layer 7: At, the document's. -/
import Derived.Test.YtkklkkppedociaaGreatPkRAt2
import Derived.Test.YtkklkkppedociaaGreatPkRAt3
set_option linter.unusedVariables false
set_option linter.unusedSimpArgs false
set_option maxRecDepth 100000
set_option maxHeartbeats 4000000
namespace Go.Proofs.YtkklkkppedociaaGreat.Ev
open Go Go.RowKit

theorem rAt_ev (en : En) (hv : en.vars.length ≤ 4) (hi : en.ins.length < 1000000) : ∀ (e : Tr), e.wf → (∀ t ∈ e.flat, t.may = true) → e.ty ≠ 0 → (∀ t ∈ e.flat, t.op = 2 → 0 ≤ placeV en.vars t.name) → ∀ (l : List Tm) (i : Nat), e.At l i → l.length < 1000000 → Gives 38 [L (l.map Tm.c), I i, en.w] (V.int .i64 (e.val en))
  | .leaf t, hw, hm, ht, hp, l, i, h, hl => by
    have hB := rBelow_ev l (by omega) i t h.top (by rw [h.stop hw]; omega)
    have hk := h.bel hw
    simp only [Tr.top, Tr.kids] at hk
    rw [hk] at hB
    simp only [Tr.wf] at hw
    exact rAt_leaf en hv hi t hw l i h.top (hp t (by simp [Tr.flat])) hB
  | .one t a, hw, hm, ht, hp, l, i, h, hl => by
    have hB := rBelow_ev l (by omega) i t h.top (by rw [h.stop hw]; omega)
    have hk := h.bel hw
    simp only [Tr.top, Tr.kids] at hk
    rw [hk] at hB
    simp only [Tr.wf] at hw
    obtain ⟨t1, t2, t3⟩ := ty_one ht
    have hm' : ∀ u ∈ a.flat, u.may = true := fun u hu => hm u (by simp [Tr.flat, hu])
    obtain ⟨b1, b2⟩ := val_ok en a hw.2 hm' t3
    have hA := rAt_ev en hv hi a hw.2 hm' t3 (fun u hu => hp u (by simp [Tr.flat, hu])) l (i + 1) h.one hl
    exact rAt_one en t hw.1 l i (i + 1) h.top (a.val en) b1 (fun c => b2 (by simp [t1, c, tyT])) hB hA
  | .two t a b, hw, hm, ht, hp, l, i, h, hl => by
    have hB := rBelow_ev l (by omega) i t h.top (by rw [h.stop hw]; omega)
    have hk := h.bel hw
    simp only [Tr.top, Tr.kids] at hk
    rw [hk] at hB
    simp only [Tr.wf] at hw
    obtain ⟨t1, t2, t3, t4, t5⟩ := ty_two ht
    have hm1 : ∀ u ∈ a.flat, u.may = true := fun u hu => hm u (by simp [Tr.flat, hu])
    have hm2 : ∀ u ∈ b.flat, u.may = true := fun u hu => hm u (by simp [Tr.flat, hu])
    obtain ⟨b1, b2⟩ := val_ok en a hw.2.1 hm1 t4
    obtain ⟨c1, c2⟩ := val_ok en b hw.2.2 hm2 t5
    have hA := rAt_ev en hv hi a hw.2.1 hm1 t4 (fun u hu => hp u (by simp [Tr.flat, hu])) l (i + 1) h.two.1 hl
    have hA2 := rAt_ev en hv hi b hw.2.2 hm2 t5 (fun u hu => hp u (by simp [Tr.flat, hu])) l (i + 1 + a.flat.length) h.two.2 hl
    rcases arity2_op hw.1 with c | c | c | c | c | c | c | c | c | c | c | c | c
    · exact rAt_4 en t l i (i + 1) (i + 1 + a.flat.length) h.top (a.val en) (b.val en) b1 c1 hB hA hA2 c
    · exact rAt_5 en t l i (i + 1) (i + 1 + a.flat.length) h.top (a.val en) (b.val en) b1 c1 hB hA hA2 c
    · exact rAt_6 en t l i (i + 1) (i + 1 + a.flat.length) h.top (a.val en) (b.val en) b1 c1 hB hA hA2 c
    · exact rAt_7 en t l i (i + 1) (i + 1 + a.flat.length) h.top (a.val en) (b.val en) b1 c1 hB hA hA2 c
    · exact rAt_8 en t l i (i + 1) (i + 1 + a.flat.length) h.top (a.val en) (b.val en) b1 c1 hB hA hA2 c
    · exact rAt_13 en t l i (i + 1) (i + 1 + a.flat.length) h.top (a.val en) (b.val en) b1 c1 hB hA hA2 c
    · exact rAt_14 en t l i (i + 1) (i + 1 + a.flat.length) h.top (a.val en) (b.val en) b1 c1 hB hA hA2 c
    · exact rAt_15 en t l i (i + 1) (i + 1 + a.flat.length) h.top (a.val en) (b.val en) b1 c1 hB hA hA2 c
    · exact rAt_16 en t l i (i + 1) (i + 1 + a.flat.length) h.top (a.val en) (b.val en) b1 c1 hB hA hA2 c
    · exact rAt_17 en t l i (i + 1) (i + 1 + a.flat.length) h.top (a.val en) (b.val en) b1 c1 hB hA hA2 c
    · exact rAt_18 en t l i (i + 1) (i + 1 + a.flat.length) h.top (a.val en) (b.val en) b1 c1 hB hA hA2 c
    · exact rAt_19 en t l i (i + 1) (i + 1 + a.flat.length) h.top (a.val en) (b.val en) b1 c1 hB hA hA2 (b2 (by simp [t1, c, tyT])) (c2 (by simp [t2, c, tyT])) c
    · exact rAt_20 en t l i (i + 1) (i + 1 + a.flat.length) h.top (a.val en) (b.val en) b1 c1 hB hA hA2 (b2 (by simp [t1, c, tyT])) (c2 (by simp [t2, c, tyT])) c
end Go.Proofs.YtkklkkppedociaaGreat.Ev
