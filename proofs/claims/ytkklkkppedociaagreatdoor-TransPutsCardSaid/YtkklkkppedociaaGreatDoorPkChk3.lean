/- Layer 5: Check, the document's. -/
import Derived.Test.YtkklkkppedociaaGreatDoorPkChk
import Derived.Test.YtkklkkppedociaaGreatDoorPkTrmC
set_option linter.unusedVariables false
set_option linter.unusedSimpArgs false
set_option maxRecDepth 100000
set_option maxHeartbeats 2000000
namespace Go.Proofs.YtkklkkppedociaaGreatDoor.Ev
open Go Go.RowKit

theorem wf_op : ∀ (e : Tr), e.wf → ∀ t ∈ e.flat, ¬ (t.op < 1 ∨ 20 < t.op)
  | .leaf t, hw, u, hu => by
    simp only [Tr.flat, List.mem_singleton] at hu
    subst hu
    have := arity0 hw
    omega
  | .one t a, hw, u, hu => by
    simp only [Tr.flat, List.mem_cons] at hu
    rcases hu with rfl | hu
    · have := arity1 hw.1
      omega
    · exact wf_op a hw.2 u hu
  | .two t a b, hw, u, hu => by
    simp only [Tr.flat, List.mem_cons, List.mem_append] at hu
    rcases hu with rfl | hu | hu
    · have := arity2 hw.1
      omega
    · exact wf_op a hw.2.1 u hu
    · exact wf_op b hw.2.2 u hu
def kyS (l : List Tm) (i : Nat) (gl : List (List W)) (ro : Nat) : St := st 25 [(0, .c (L (l.map Tm.c))), (3, V.int .i64 i)] [] [] gl ro
theorem ky_loop (l : List Tm) (hl : l.length ≤ 40) (hs : ∀ t ∈ l, t.name.length ≤ 9223372036854775807) (ho : ∀ t ∈ l, ¬ (t.op < 1 ∨ 20 < t.op)) : Evt fun k => ∀ gl ro S, S.hav [0, 3] = kyS l 0 gl ro →
    loopA (evC Tryz.prog cf 42 (ev k) k (bodyOf Tryz.f42 0)) [0, 3] [2] k S = some (if (l.any fun t => !t.may) = true then (.ret, st 25 [(2, V.int .i64 1)] [] [] gl ro) else (.exit 0, kyS l l.length gl ro)) := by
  have hmay : Evt fun k => ∀ t ∈ l, ∀ ro gl, ev k 83 [t.w] ro gl = some (V.bool t.may, gl) := Evt.all l fun t ht => by
    have := rMay_ev t (hs t ht)
    rw [if_neg (ho t ht)] at this
    exact this
  refine (hmay.and (Evt.ge (l.length + 1))).imp fun k ⟨h, hk⟩ gl ro S hS => ?_
  refine loop_by (keep := [0, 3]) (res := [2]) (fun i : Nat => kyS l i gl ro) (fun i => i ≤ l.length) (fun i => l.length - i) (fun i => if ((l.drop i).any fun t => !t.may) = true then (.ret, st 25 [(2, V.int .i64 1)] [] [] gl ro) else (.exit 0, kyS l l.length gl ro)) ?_ k 0 S (Nat.zero_le _) (by omega) hS
  intro i hi
  by_cases hi' : i = l.length
  · subst hi'
    refine .inr (.inl ⟨0, kyS l l.length gl ro, ?_, ?_⟩)
    · simp -implicitDefEqProofs [kyS, bodyOf, loopsOf, hv, Tryz.f42]
    · rw [List.drop_of_length_le (Nat.le_refl _)]; rfl
  · have h1 : i < l.length := by omega
    have h1' : (i : Int) < l.length := by omega
    have da : l.drop i = l[i] :: l.drop (i + 1) := List.drop_eq_getElem_cons h1
    have ca : l[i]? = some l[i] := List.getElem?_eq_getElem h1
    have hm := h l[i] (List.getElem_mem h1)
    generalize l[i] = x at da ca hm
    have w : IntKind.i64.wrap ((i : Int) + 1) = (i : Int) + 1 := i64w _ (by omega)
    have hx : l[i] = x := (List.getElem?_eq_some_iff.1 ca).2
    simp [Tm.w] at hm
    by_cases hp : x.may = true
    · refine .inl ⟨i + 1, by omega, by omega, ?_, ?_⟩
      · simp -implicitDefEqProofs [kyS, bodyOf, loopsOf, hv, Tryz.f42, h1, h1', hx, Tm.c, w, hm, hp]
      · rw [da, List.any_cons, hp]; rfl
    · have hp : x.may = false := by simpa using hp
      refine .inr (.inr ⟨st 25 [(2, V.int .i64 1)] [] [] gl ro, ?_, ?_⟩)
      · simp -implicitDefEqProofs [kyS, bodyOf, loopsOf, hv, Tryz.f42, h1, h1', hx, Tm.c, w, hm, hp]
      · rw [da, List.any_cons, hp]; simp
theorem rCheck_ev (l : List Tm) (hs : ∀ t ∈ l, t.name.length ≤ 9223372036854775807) (hl : l.length ≤ 9223372036854775807) : Gives 42 [L (l.map Tm.c)] (V.int .i64 (checkV l)) := by
  unfold checkV
  by_cases h40 : 40 < l.length
  · rw [if_pos h40]
    have j40 : (40 : Int) < l.length := by omega
    refine .intro Tryz.func42 (by kernel_rfl) (.of fun k ro gl => ?_)
    simp -implicitDefEqProofs [Tryz.f42, j40]
  · rw [if_neg h40]
    have j40 : ¬ (40 : Int) < l.length := by omega
    have hw := rWhole_ev l (by omega)
    by_cases h1 : wholeB l = false
    · rw [if_pos (.inl h1)]
      rw [h1] at hw
      refine .intro Tryz.func42 (by kernel_rfl) (hw.imp fun k h ro gl => ?_)
      simp -implicitDefEqProofs [Tryz.f42, j40, h]
    · have h1' : wholeB l = true := by simpa using h1
      rw [h1'] at hw
      obtain ⟨e, e1, e2⟩ := whole_of h1'
      have lp := ky_loop l (by omega) hs (e2 ▸ wf_op e e1)
      have hd := rDepth_ev e e1 l 0 (e2 ▸ Tr.At.root e) (by omega)
      by_cases h2 : (l.any fun t => !t.may) = true
      · rw [if_pos (.inr h2)]
        refine .intro Tryz.func42 (by kernel_rfl) ((hw.and lp).imp fun k ⟨h, h'⟩ ro gl => ?_)
        have tail : ∀ S : St, S.hav [0, 3] = kyS l 0 gl gl.length → loopC Tryz.prog cf 42 (ev k) k (bodyOf Tryz.f42 0) S = _ := fun S hS => h' gl gl.length S hS
        simp -implicitDefEqProofs [Tryz.f42, j40, h]
        refine bind_go (tail _ ?_) ?_
        · simp [kyS]
        · rw [if_pos h2]; simp
      · rw [if_neg (by simp [h1', h2]), depV_eq e1 e2]
        by_cases h12 : 12 < e.dep
        · rw [if_pos h12]
          have j12 : (12 : Int) < e.dep := by omega
          refine .intro Tryz.func42 (by kernel_rfl) ((hw.and (lp.and hd)).imp fun k ⟨h, h', h''⟩ ro gl => ?_)
          have tail : ∀ S : St, S.hav [0, 3] = kyS l 0 gl gl.length → loopC Tryz.prog cf 42 (ev k) k (bodyOf Tryz.f42 0) S = _ := fun S hS => h' gl gl.length S hS
          simp at h''
          simp -implicitDefEqProofs [Tryz.f42, j40, h]
          refine bind_go (tail _ ?_) ?_
          · simp [kyS]
          · rw [if_neg h2]; simp -implicitDefEqProofs [kyS, h'', j12]
        · rw [if_neg h12]
          have j12 : ¬ (12 : Int) < e.dep := by omega
          refine .intro Tryz.func42 (by kernel_rfl) ((hw.and (lp.and hd)).imp fun k ⟨h, h', h''⟩ ro gl => ?_)
          have tail : ∀ S : St, S.hav [0, 3] = kyS l 0 gl gl.length → loopC Tryz.prog cf 42 (ev k) k (bodyOf Tryz.f42 0) S = _ := fun S hS => h' gl gl.length S hS
          simp at h''
          simp -implicitDefEqProofs [Tryz.f42, j40, h]
          refine bind_go (tail _ ?_) ?_
          · simp [kyS]
          · rw [if_neg h2]; simp -implicitDefEqProofs [kyS, h'', j12]
end Go.Proofs.YtkklkkppedociaaGreatDoor.Ev
