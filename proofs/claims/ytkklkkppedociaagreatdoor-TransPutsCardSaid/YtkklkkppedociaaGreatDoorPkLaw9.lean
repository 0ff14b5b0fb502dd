/- Layer 9: the theorem of transitions. -/
import Derived.Test.YtkklkkppedociaaGreatDoorPkTrnL
import Derived.Test.YtkklkkppedociaaGreatDoorPkTrnD
import Derived.Test.YtkklkkppedociaaGreatDoorPkTrnC
import Derived.Test.YtkklkkppedociaaGreatDoorPkLaw6f
set_option linter.unusedVariables false
set_option linter.unusedSimpArgs false
set_option maxRecDepth 100000
set_option maxHeartbeats 4000000
namespace Go.Proofs.YtkklkkppedociaaGreatDoor.Ev
open Go Go.RowKit

theorem readT_ok {c : Cu} (hk : c.Ok) (hn : c.r.length < 40000) : (readT c).1.Ok := by
  obtain ⟨k1, l1, _⟩ := stE hk
  obtain ⟨k2, l2, _⟩ := stG k1 (by omega)
  obtain ⟨k3, l3, _⟩ := stA k2 (by omega)
  obtain ⟨k4, _⟩ := stT k3
  exact want_ok k4 _ _
theorem TransPuts_evL (t u : Tn) : Gives 5 [t.w, u.w] (V.bool true) := by
  have l1 := Light09_ev t
  have l2 := Light09_ev u
  have ha := awake09_ev
  cases hl1 : lightT t with
  | false =>
    rw [hl1] at l1
    refine .intro Tryz.func5 (by kernel_rfl) ((l1.and ha).imp fun k ⟨l1, ha⟩ ro gl => ?_)
    simp [Tn.w] at l1
    simp -implicitDefEqProofs [Tryz.f5, Tn.w, l1, ha]
  | true =>
    rw [hl1] at l1
    cases hl2 : lightT u with
    | false =>
      rw [hl2] at l2
      refine .intro Tryz.func5 (by kernel_rfl) ((l1.and (l2.and ha)).imp fun k ⟨l1, l2, ha⟩ ro gl => ?_)
      simp [Tn.w] at l1 l2
      simp -implicitDefEqProofs [Tryz.f5, Tn.w, l1, l2, ha]
    | true =>
      rw [hl2] at l2
      obtain ⟨ok1, sm1⟩ := lightT_spec hl1
      obtain ⟨ok2, sm2⟩ := lightT_spec hl2
      have h1 := TPut_ev t ok1
      have h2 := rTCheck_ev t ok1
      have h3 := TCheck_ev t ok1
      have h4 := TSame_ev t u sm1 sm2
      have h5 := rTSame_ev t u sm1 sm2
      by_cases h0 : checkT t = 0
      · have h6 := rTPut_ev t h0
        have h7 := rTSame_ev t t sm1 sm1
        have hpl := putT_len h0
        obtain ⟨p1, d, p2, p3, p4⟩ := putT_read h0
        obtain ⟨p, q, hp⟩ := tokV_eq (putT t)
        have ht := Tokens_ev (putT t) (by omega)
        rw [hp, p1] at ht
        obtain ⟨k1, k2⟩ := tkL_ok (putT t)
        have hn := New_ev (tkL (putT t))
        have hr := TRead_ev k1 (by simp only; omega)
        have hok := readT_ok k1 (by simp only; omega)
        rw [p2] at hr hok
        simp only at hr hok
        have hg := good_c (c := d)
        have hx := next_c hok
        generalize hc : (⟨[], tkL (putT t), 0, 0, 0⟩ : Cu) = c0 at hr
        have ec : c0.w = cW [] (tkL (putT t)) 0 0 0 := by rw [← hc]; rfl
        rw [← ec] at hn
        rw [h0, if_pos rfl] at h1
        rw [h0] at h2 h3
        rw [decide_eq_true rfl] at h7
        clear hp p1 hpl k1 k2 p2 hok ec hc sm1 sm2 ok1 ok2 hl1 hl2
        generalize decide (t = u) = b at h4 h5
        generalize putT t = s at h1 h6 ht hn
        generalize tkL s = tl at ht hn
        refine .intro Tryz.func5 (by kernel_rfl) ((l1.and (l2.and (ha.and (h1.and (h2.and (h3.and (h4.and (h5.and (h6.and (h7.and (ht.and (hn.and (hr.and (hg.and hx)))))))))))))).imp fun k ⟨l1, l2, ha, h1, h2, h3, h4, h5, h6, h7, ht, hn, hr, hg, hx⟩ ro gl => ?_)
        have hr := fun ro hro => hr (gl ++ [c0.w]) gl.length ro (get_last _ _) hro
        have hg := fun ro => hg (gl ++ [d.w]) gl.length ro (get_last _ _)
        have hx := fun ro => hx (gl ++ [d.w]) gl.length ro (get_last _ _)
        simp only [set_last] at hr
        generalize c0.w = w0 at hn hr
        generalize d.w = w1 at hr hg hx
        obtain ⟨ev', gd, ac, tg⟩ := t
        obtain ⟨ev2, gd2, ac2, tg2⟩ := u
        simp [Tn.w, Tk.w, p3, p4] at l1 l2 h1 h2 h3 h4 h5 h6 h7 hr hg hx
        simp -implicitDefEqProofs [Tryz.f5, Tn.w, l1, l2, ha, h1, h2, h3, h4, h5, h6, h7, ht, hn, hr, hg, hx]
      · rw [if_neg h0] at h1
        clear sm1 sm2 ok1 ok2 hl1 hl2
        generalize checkT t = e at h0 h1 h2 h3
        generalize decide (t = u) = b at h4 h5
        obtain ⟨ev', gd, ac, tg⟩ := t
        obtain ⟨ev2, gd2, ac2, tg2⟩ := u
        refine .intro Tryz.func5 (by kernel_rfl) ((l1.and (l2.and (ha.and (h1.and (h2.and (h3.and (h4.and h5))))))).imp fun k ⟨l1, l2, ha, h1, h2, h3, h4, h5⟩ ro gl => ?_)
        simp [Tn.w] at l1 l2 h1 h2 h3 h4 h5
        simp -implicitDefEqProofs [Tryz.f5, Tn.w, l1, l2, ha, h1, h2, h3, h4, h5, h0]
/-! As the model hands them in. -/
theorem len_3 {α : Type} {l : List α} (h : l.length = 3) : ∃ a b c, l = [a, b, c] := by
  match l, h with
  | [a, b, c], _ => exact ⟨a, b, c, rfl⟩
theorem cells_tm : Tryz.prog.cellsOf 60 = 3 := by kernel_rfl
theorem cells_ac : Tryz.prog.cellsOf 83 = 3 := by kernel_rfl
theorem cells_int : Tryz.prog.cellsOf 3 = 1 := by kernel_rfl
theorem cells_str : Tryz.prog.cellsOf 9 = 1 := by kernel_rfl
theorem cells_bool : Tryz.prog.cellsOf 4 = 1 := by kernel_rfl
theorem cells_tms : Tryz.prog.cellsOf 23 = 1 := by kernel_rfl
theorem cells_acs : Tryz.prog.cellsOf 46 = 1 := by kernel_rfl
theorem cells_tn : Tryz.prog.cellsOf 48 = 4 := by kernel_rfl
theorem agg_tn : isAggT Tryz.prog 48 = some true := by kernel_rfl
theorem sh_str {K : Nat} {x : List D} (h : Shape Tryz.prog (K + 1) 9 x) : ∃ s, x = [.str s] := by
  simp only [Shape, Tryz.underlying9] at h
  obtain ⟨s, rfl, _⟩ := h
  exact ⟨s, rfl⟩
theorem sh_bool {K : Nat} {x : List D} (h : Shape Tryz.prog (K + 1) 4 x) : ∃ s, x = [.bool s] := by
  simp only [Shape, Tryz.underlying4] at h
  exact h
theorem shape_tm {K : Nat} {x : List D} (h : Shape Tryz.prog (K + 2) 60 x) : ∃ t : Tm, x = t.c := by
  simp only [Shape, Tryz.underlying60] at h
  obtain ⟨hl, hf⟩ := h
  rw [cells_tm] at hl
  obtain ⟨a, b, c, rfl⟩ := len_3 hl
  simp [cells_int, cells_str, Shape] at hf
  obtain ⟨⟨k, rfl, _⟩, ⟨n, rfl, _⟩, s, rfl, hs⟩ := hf
  exact ⟨⟨k, n, s⟩, rfl⟩
theorem map_any {α : Type} {f : α → List D} {p : List D → Prop} (h : ∀ x, p x → ∃ a, x = f a) : ∀ (xs : List (List D)), (∀ x ∈ xs, p x) → ∃ l : List α, xs = l.map f
  | [], _ => ⟨[], rfl⟩
  | x :: r, hx => by
    obtain ⟨a, rfl⟩ := h x (hx x (by simp))
    obtain ⟨l, rfl⟩ := map_any h r fun y hy => hx y (by simp [hy])
    exact ⟨a :: l, rfl⟩
theorem sl_shape {P : Program} {n e t : Nat} {x : List D} (hu : P.underlying t = some (.slice e)) (h : Shape P (n + 1) t x) : ∃ xs : List (List D), x = [.sl xs] ∧ ∀ y ∈ xs, Shape P n e y := by
  simp only [Shape, hu] at h
  obtain ⟨xs, h1, _, h2⟩ := h
  exact ⟨xs, h1, h2⟩
theorem sh_tms {K : Nat} {x : List D} (h : Shape Tryz.prog (K + 3) 23 x) : ∃ l : List Tm, x = [.sl (l.map Tm.c)] := by
  obtain ⟨xs, rfl, hx⟩ := sl_shape (e := 60) (by kernel_rfl) h
  obtain ⟨l, rfl⟩ := map_any (f := Tm.c) (p := Shape Tryz.prog (K + 2) 60) (fun x h => shape_tm h) xs hx
  exact ⟨l, rfl⟩
theorem shape_ac {K : Nat} {x : List D} (h : Shape Tryz.prog (K + 4) 83 x) : ∃ a : Ac, x = a.c := by
  rw [Shape.eq_2, Tryz.underlying83] at h
  simp only at h
  obtain ⟨hl, hf⟩ := h
  rw [cells_ac] at hl
  obtain ⟨a, b, c, rfl⟩ := len_3 hl
  simp only [List.mem_cons, List.not_mem_nil, or_false, forall_eq_or_imp, forall_eq, cells_str, cells_bool, cells_tms] at hf
  obtain ⟨f1, f2, f3⟩ := hf
  obtain ⟨s, e1⟩ := sh_str (K := K + 2) f1
  obtain ⟨y, e2⟩ := sh_bool (K := K + 2) f2
  obtain ⟨l, e3⟩ := sh_tms (K := K) f3
  simp at e1 e2 e3
  exact ⟨⟨s, y, l⟩, by rw [e1, e2, e3]; rfl⟩
theorem sh_acs {K : Nat} {x : List D} (h : Shape Tryz.prog (K + 5) 46 x) : ∃ l : List Ac, x = [.sl (l.map Ac.c)] := by
  obtain ⟨xs, rfl, hx⟩ := sl_shape (e := 83) (by kernel_rfl) h
  obtain ⟨l, rfl⟩ := map_any (f := Ac.c) (p := Shape Tryz.prog (K + 4) 83) (fun x h => shape_ac h) xs hx
  exact ⟨l, rfl⟩
theorem len_4 {α : Type} {l : List α} (h : l.length = 4) : ∃ a b c d, l = [a, b, c, d] := by
  match l, h with
  | [a, b, c, d], _ => exact ⟨a, b, c, d, rfl⟩
theorem shape_tn {K : Nat} {x : List D} (h : Shape Tryz.prog (K + 6) 48 x) : ∃ t : Tn, x = [.str t.event, .sl (t.guard.map Tm.c), .sl (t.acts.map Ac.c), .str t.target] := by
  rw [Shape.eq_2, Tryz.underlying48] at h
  simp only at h
  obtain ⟨hl, hf⟩ := h
  rw [cells_tn] at hl
  obtain ⟨a, b, c, d, rfl⟩ := len_4 hl
  simp only [List.mem_cons, List.not_mem_nil, or_false, forall_eq_or_imp, forall_eq, cells_str, cells_tms, cells_acs] at hf
  obtain ⟨f1, f2, f3, f4⟩ := hf
  obtain ⟨s, e1⟩ := sh_str (K := K + 4) f1
  obtain ⟨l, e2⟩ := sh_tms (K := K + 2) f2
  obtain ⟨m, e3⟩ := sh_acs (K := K) f3
  obtain ⟨u, e4⟩ := sh_str (K := K + 4) f4
  simp at e1 e2 e3 e4
  exact ⟨⟨s, l, m, u⟩, by rw [e1, e2, e3, e4]⟩
theorem arg_tn {c : C} (h : ArgOf Tryz.prog 9 48 c) : ∃ t : Tn, c = t.w := by
  obtain ⟨ds, hs, h⟩ := h
  obtain ⟨t, rfl⟩ := shape_tn (K := 3) hs
  rcases h with ⟨_, rfl⟩ | ⟨h, _⟩
  · exact ⟨t, rfl⟩
  · rw [agg_tn] at h; cases h
theorem TransPuts_ev (c0 c1 : C) (h0 : ArgOf Tryz.prog 9 48 c0) (h1 : ArgOf Tryz.prog 9 48 c1) : Gives 5 [c0, c1] (V.bool true) := by
  obtain ⟨t, rfl⟩ := arg_tn h0
  obtain ⟨u, rfl⟩ := arg_tn h1
  exact TransPuts_evL t u
end Go.Proofs.YtkklkkppedociaaGreatDoor.Ev
