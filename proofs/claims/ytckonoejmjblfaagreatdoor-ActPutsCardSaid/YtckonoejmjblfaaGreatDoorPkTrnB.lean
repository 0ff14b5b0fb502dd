/- Layers 8 and 9: acts' and transitions' texts. -/
import Derived.Test.YtckonoejmjblfaaGreatDoorPkTrn
set_option linter.unusedVariables false
set_option linter.unusedSimpArgs false
set_option maxRecDepth 100000
set_option maxHeartbeats 2000000
namespace Go.Proofs.YtckonoejmjblfaaGreatDoor.Ev
open Go Go.RowKit
/-! The document's. -/
theorem put_at1 (e : Tr) : e.put 1 = e.txt := by
  unfold Tr.put brk
  have := (level_rng e.top.op).1
  rw [if_neg (by omega)]
def rapS (l : List Ac) (cur : List UInt8) (i : Nat) (gl : List (List W)) (ro : Nat) : St := st 44 [(0, .c (L (l.map Ac.c))), (3, .c (T cur)), (4, V.int .i64 i)] [] [] gl ro
theorem joinB_snoc (sep y : List UInt8) : ∀ xs : List (List UInt8), xs ≠ [] → joinB sep (xs ++ [y]) = joinB sep xs ++ (sep ++ y)
  | [], h => absurd rfl h
  | [a], _ => by simp [joinB]
  | a :: b :: r, _ => by
    have ih := joinB_snoc sep y (b :: r) (by simp)
    simp only [List.cons_append, joinB] at ih ⊢
    rw [ih]
    simp
theorem rap_loop (l : List Ac) (h8 : l.length ≤ 8) (hE : ∀ a ∈ l, actE a = 0) : Evt fun k => ∀ gl ro S, S.hav [0, 3, 4] = rapS l [] 0 gl ro →
    loopA (evC Tryz.prog cf 27 (ev k) k (bodyOf Tryz.f27 0)) [0, 3, 4] [] k S = some (.exit 0, rapS l (putA l) l.length gl ro) := by
  have hp : Evt fun k => ∀ a ∈ l, a.any = false → ∀ ro gl, ev k 78 [L (a.expr.map Tm.c), I (0 : Nat), I 1] ro gl = some (V.str (txtV a.expr), gl) := Evt.all l fun a ha => by
    by_cases hany : a.any = false
    · obtain ⟨p1, p2, p3⟩ := actE_parts (hE a ha)
      obtain ⟨e, e1, e2, e3, e4, e5⟩ := checkV_tree (p3 hany)
      have h4 := rPutE_ev e e1 e3 a.expr 0 1 (e2 ▸ Tr.At.root e) (by rw [e2]; omega)
      rw [put_at1, ← txtV_eq e1 e2] at h4
      exact h4.imp fun k h _ => h
    · exact .of fun k h => absurd h hany
  refine (hp.and (Evt.ge (l.length + 1))).imp fun k ⟨hp, hk⟩ gl ro S hS => ?_
  refine loop_by (keep := [0, 3, 4]) (res := []) (fun i : Nat => rapS l (joinB [44, 32] ((l.take i).map actT)) i gl ro) (fun i => i ≤ l.length) (fun i => l.length - i) (fun _ => (.exit 0, rapS l (putA l) l.length gl ro)) ?_ k 0 S (Nat.zero_le _) (by omega) (by rw [hS]; rfl)
  intro i hi
  by_cases hi' : i = l.length
  · subst hi'
    refine .inr (.inl ⟨0, rapS l (putA l) l.length gl ro, ?_, rfl⟩)
    rw [List.take_of_length_le (Nat.le_refl _), putA_join]
    simp -implicitDefEqProofs [rapS, bodyOf, loopsOf, hv, Tryz.f27]
  · have h1 : i < l.length := by omega
    have h1' : (i : Int) < l.length := by omega
    have ca : l[i]? = some l[i] := List.getElem?_eq_getElem h1
    have ta : (l.take (i + 1)).map actT = (l.take i).map actT ++ [actT l[i]] := by rw [List.take_add_one, ca, List.map_append]; rfl
    have hm := List.getElem_mem h1
    have hp := hp l[i] hm
    obtain ⟨p1, p2, p3⟩ := actE_parts (hE l[i] hm)
    have hn := (isName_word p1).2.2.2.1
    have hcl : (joinB [44, 32] ((l.take i).map actT)).length ≤ 10000 := by
      rw [putA_join]
      have := putA_len (l.take i) fun a ha => hE a (List.mem_of_mem_take ha)
      rw [List.length_take] at this
      omega
    have w : IntKind.i64.wrap ((i : Int) + 1) = (i : Int) + 1 := i64w _ (by omega)
    refine .inl ⟨i + 1, by omega, by omega, ?_, rfl⟩
    rw [ta]
    have hx : l[i] = l[i] := rfl
    generalize hxx : l[i] = x at ca ta hp p1 p2 p3 hn
    clear hE hx
    have hcur : joinB [44, 32] ((l.take i).map actT ++ [actT x]) = if i = 0 then actT x else joinB [44, 32] ((l.take i).map actT) ++ (44 :: 32 :: actT x) := by
      by_cases h0 : i = 0
      · subst h0; simp [joinB]
      · rw [if_neg h0, joinB_snoc]
        · rfl
        · intro e
          have := congrArg List.length e
          simp only [List.length_map, List.length_take, List.length_nil] at this
          omega
    have hcur0 : i = 0 → joinB [44, 32] ((l.take i).map actT) = [] := by rintro rfl; rfl
    rw [hcur]
    generalize joinB [44, 32] ((l.take i).map actT) = cur at hcl hcur0
    obtain ⟨nm, an, ex⟩ := x
    simp only at p1 p2 p3 hn hp
    cases an with
    | true =>
      by_cases h0 : i = 0
      · rw [if_pos h0, hcur0 h0]
        subst h0
        have b1 : 4 + nm.length ≤ 9223372036854775807 := by omega
        simp -implicitDefEqProofs [rapS, bodyOf, loopsOf, hv, Tryz.f27, h1, h1', hxx, Ac.c, w, actT, b1]
      · rw [if_neg h0]
        have h0' : 0 < i := by omega
        have b0 : cur.length + 2 ≤ 9223372036854775807 := by omega
        have b0' : cur.length ≤ 9223372036854775805 := by omega
        have b1 : cur.length + 1 + 1 + 4 ≤ 9223372036854775807 := by omega
        have b1' : cur.length ≤ 9223372036854775801 := by omega
        have b2 : cur.length + (nm.length + 1 + 1 + 1 + 1 + 1 + 1) ≤ 9223372036854775807 := by omega
        have b3 : cur.length + 6 + nm.length ≤ 9223372036854775807 := by omega
        have b4 : cur.length + 1 + 1 + 1 + 1 + 1 + 1 + nm.length ≤ 9223372036854775807 := by omega
        simp -implicitDefEqProofs [rapS, bodyOf, loopsOf, hv, Tryz.f27, h1, h1', hxx, Ac.c, w, actT, h0, h0', b0, b0', b1, b1', b2, b3, b4]
    | false =>
      have p3 := p3 rfl
      have hxl := txtV_len p3
      have hp := hp rfl
      simp at hp
      have hat : actT ⟨nm, false, ex⟩ = nm ++ 32 :: 58 :: 61 :: 32 :: txtV ex := by simp [actT]
      rw [hat]
      generalize txtV ex = x at hp hxl
      by_cases h0 : i = 0
      · rw [if_pos h0, hcur0 h0]
        subst h0
        have b2 : nm.length + 4 ≤ 9223372036854775807 := by omega
        have b2' : nm.length ≤ 9223372036854775803 := by omega
        have b3 : nm.length + 4 + x.length ≤ 9223372036854775807 := by omega
        have b3' : nm.length + (x.length + 1 + 1 + 1 + 1) ≤ 9223372036854775807 := by omega
        have b5 : nm.length ≤ 9223372036854775807 := by omega
        simp -implicitDefEqProofs [rapS, bodyOf, loopsOf, hv, Tryz.f27, h1, h1', hxx, Ac.c, w, hp, b2, b2', b3, b3', b5]
      · rw [if_neg h0]
        have h0' : 0 < i := by omega
        have b0 : cur.length + 2 ≤ 9223372036854775807 := by omega
        have b0' : cur.length ≤ 9223372036854775805 := by omega
        have b1 : cur.length + 1 + 1 + nm.length ≤ 9223372036854775807 := by omega
        have b1' : cur.length + (nm.length + 1 + 1) ≤ 9223372036854775807 := by omega
        have b2 : cur.length + (nm.length + 1 + 1) + 4 ≤ 9223372036854775807 := by omega
        have b2' : cur.length + (nm.length + 1 + 1) ≤ 9223372036854775803 := by omega
        have b3 : cur.length + (nm.length + 4 + 1 + 1) + x.length ≤ 9223372036854775807 := by omega
        have b3' : cur.length + (nm.length + (x.length + 1 + 1 + 1 + 1) + 1 + 1) ≤ 9223372036854775807 := by omega
        have b4 : cur.length + 2 + nm.length ≤ 9223372036854775807 := by omega
        have b5 : cur.length + (nm.length + (1 + 1 + 1 + 1) + 1 + 1) + x.length ≤ 9223372036854775807 := by omega
        simp -implicitDefEqProofs [rapS, bodyOf, loopsOf, hv, Tryz.f27, h1, h1', hxx, Ac.c, w, h0, h0', hp, b0, b0', b1, b1', b2, b2', b3, b3', b4, b5]
theorem rAPut_ev (l : List Ac) (h8 : l.length ≤ 8) (hE : ∀ a ∈ l, actE a = 0) : Gives 27 [L (l.map Ac.c)] (V.str (putA l)) := by
  refine .intro Tryz.func27 (by kernel_rfl) ((rap_loop l h8 hE).imp fun k h' ro gl => ?_)
  have tail : ∀ S : St, S.hav [0, 3, 4] = rapS l [] 0 gl gl.length → loopC Tryz.prog cf 27 (ev k) k (bodyOf Tryz.f27 0) S = _ := fun S hS => h' gl gl.length S hS
  simp -implicitDefEqProofs [Tryz.f27]
  refine bind_go (tail _ ?_) ?_
  · simp [rapS]
  · simp [rapS]
end Go.Proofs.YtckonoejmjblfaaGreatDoor.Ev

/- Layer 9: transitions' texts. -/
set_option linter.unusedVariables false
set_option linter.unusedSimpArgs false
set_option maxRecDepth 100000
set_option maxHeartbeats 4000000
namespace Go.Proofs.YtckonoejmjblfaaGreatDoor.Ev
open Go Go.RowKit

theorem named_len {s : List UInt8} (h : s = [] ∨ isName s = true) : s.length ≤ 12 := by
  rcases h with rfl | h
  · simp
  · exact (isName_word h).2.2.2.1
theorem nil_or {α : Type} (l : List α) : ((l = []) = True ∧ (0 < l.length) = False) ∨ ((l = []) = False ∧ (0 < l.length) = True) := by
  cases l with
  | nil => exact .inl ⟨by simp, by simp⟩
  | cons a r => exact .inr ⟨by simp, by simp⟩
theorem guard_len {l : List Tm} (h : l = [] ∨ checkV l = 0) : (txtV l).length ≤ 800 := by
  rcases h with rfl | h
  · simp [txtV, stk]
  · exact txtV_len h
theorem rTPut_ev (t : Tn) (h0 : checkT t = 0) : Gives 114 [t.w] (V.str (putT t)) := by
  obtain ⟨p1, p2, p3, p4⟩ := checkT_parts h0
  obtain ⟨a1, a2⟩ := checkA_all p4
  have n1 := named_len p1
  have n2 := named_len p2
  have n4 := putA_len t.acts a2
  have n3 := guard_len p3
  have h4 := rAPut_ev t.acts a1 a2
  have h3 : Evt fun k => ∀ ro gl, t.guard ≠ [] → ev k 78 [L (t.guard.map Tm.c), I (0 : Nat), I 1] ro gl = some (V.str (txtV t.guard), gl) := by
    by_cases hg : t.guard = []
    · exact .of fun k ro gl h => absurd hg h
    · obtain ⟨e, e1, e2, e3, e4, e5⟩ := checkV_tree (p3.resolve_left hg)
      have h4 := rPutE_ev e e1 e3 t.guard 0 1 (e2 ▸ Tr.At.root e) (by rw [e2]; omega)
      rw [put_at1, ← txtV_eq e1 e2] at h4
      exact h4.imp fun k h ro gl _ => h ro gl
  clear p1 p2 p3 p4 a2 h0
  obtain ⟨ev', gd, ac, tg⟩ := t
  simp only at n1 n2 n3 n4 h3 h4 a1
  unfold putT
  simp only
  refine .intro Tryz.func114 (by kernel_rfl) ((h3.and h4).imp fun k ⟨h3, h4⟩ ro gl => ?_)
  simp at h3
  generalize txtV gd = x at h3 n3 ⊢
  generalize putA ac = y at h4 n4 ⊢
  have ny : y.length ≤ 7000 := by omega
  clear n4
  rcases nil_or ev' with ⟨c1, d1⟩ | ⟨c1, d1⟩ <;> rcases nil_or gd with ⟨c2, d2⟩ | ⟨c2, d2⟩ <;> rcases nil_or ac with ⟨c3, d3⟩ | ⟨c3, d3⟩ <;> rcases nil_or tg with ⟨c4, d4⟩ | ⟨c4, d4⟩
  all_goals
    repeat (simp -implicitDefEqProofs [Tryz.f114, Tn.w, c1, c2, c3, c4, d1, d2, d3, d4, h3, h4]; refine bind_go (if_pos (by omega)) ?_)
    simp -implicitDefEqProofs [Tryz.f114, Tn.w, c1, c2, c3, c4, d1, d2, d3, d4, h3, h4]
end Go.Proofs.YtckonoejmjblfaaGreatDoor.Ev
