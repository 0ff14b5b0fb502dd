/- slices.SortFunc at rows of four numbers, by the shelf's contract. -/
import Derived.Test.YtckonoejmjblfaaGreatDoorPkOrd
import Derived.Test.YtckonoejmjblfaaGreatDoorPkIter
import Derived.Shelf.SlSortCmp.NoneTotal
set_option linter.unusedVariables false
set_option linter.unusedSimpArgs false
set_option maxRecDepth 100000
set_option maxHeartbeats 2000000
namespace Go.Proofs.YtckonoejmjblfaaGreatDoor.Ev
open Go Go.RowKit Go.Sort

theorem grow_of {w w' : World} (hos : w'.os = w.os) (hta : w'.tape = w.tape) (hou : w'.output = w.output) (hsz : w.heap.size ≤ w'.heap.size) (hb : ∀ g, g < w.heap.size → w'.heap[g]? = w.heap[g]?) (hd : w.drawn ≤ w'.drawn) :
    ∃ q os', w' = grow (w.drewN q) os' := by
  refine ⟨w'.drawn - w.drawn, w'.heap.extract w.heap.size w'.heap.size, ?_⟩
  obtain ⟨h', t', d', o', p'⟩ := w'
  simp only at *
  subst hos hta hou
  have e : w.drawn + (d' - w.drawn) = d' := by omega
  simp only [grow, World.drewN, World.mk.injEq, true_and, e, and_true]
  apply Array.ext_getElem?
  intro i
  by_cases hi : i < w.heap.size
  · rw [hb i hi, Array.getElem?_append_left hi]
  · rw [Array.getElem?_append_right (by omega), Array.getElem?_extract]
    by_cases h2 : i < h'.size
    · rw [if_pos (by omega)]
      congr 1
      omega
    · rw [if_neg (by omega), Array.getElem?_eq_none (by omega)]
theorem quiet_calls {f n : Nat} {W : World} {vals : List Value} {args : List C} {r : V} {gl : List (List Ev.W)} (ha : All2 (RC (Ctx.first W)) vals args) (h : evF Tryz.prog cf (fun _ => none) n f args 0 [] = some (r, gl)) :
    Calls Tryz.prog f vals.toArray W fun e w' => ∃ Γ' v, e = .returned v ∧ RV Γ' v r ∧ ∃ q os', w' = grow (W.drewN q) os' := by
  have h3 := evF_left (ql := True) base_ (fun f g h => by cases h) rfl h
  have hI : Inv (Ctx.first W) (Ctx.first W).w.heap.size { sl := args.map .c, bx := [], tk := [], gl := [], ro := 0 } { tmps := vals.toArray, defers := [] } := by
    refine ⟨Marks.nil, by simp [ha.1], fun i v x hv hx => ?_, fun k => rfl, fun k => by simp [Ctx.first, look], rfl, fun k cs hk => by simp [look] at hk, fun k t hk => by simp [look] at hk, fun o cs ho _ => by simp at ho, fun a ha => ⟨ha, .inl rfl⟩, fun g hg => absurd rfl hg, Nat.le_refl _, fun k p hk => by simp [look] at hk⟩
    rw [List.getElem?_map, Option.map_eq_some_iff] at hx
    obtain ⟨c, hc, rfl⟩ := hx
    exact ha.2 i v c (by simpa using hv) hc
  refine (h3 (Ctx.first W) vals hI).mono ?_
  rintro e w' ⟨Γ', v, rfl, rfl, st, hI'⟩
  exact ⟨Γ', v, rfl, hI'.slots 0 v _ rfl rfl, grow_of st.os st.tape st.output st.size (fun g hg => st.old g hg (fun o e => by cases e)) (st.drawn trivial)⟩
def Q4.e (q : Q4) : List Value := [.int .i64 q.a, .int .i64 q.b, .int .i64 q.c, .int .i64 q.d]
theorem compare_calls (p q : Q4) (w : World) : Calls Tryz.prog 129 #[.agg p.e.toArray, .agg q.e.toArray] w fun e w' => e = .returned (.int .i64 (cmpL p.l q.l)) ∧ ∃ n os, w' = grow (w.drewN n) os := by
  obtain ⟨n, h⟩ := compare_x (x := fun _ => none) rfl rfl rfl rfl p q
  have h := h n (Nat.le_refl _) 0 []
  have ha : ∀ q : Q4, RC (Ctx.first w) (.agg q.e.toArray) q.w := fun q => ⟨_, rfl, All2.cons (RD.int _ _) (All2.cons (RD.int _ _) (All2.cons (RD.int _ _) (All2.cons (RD.int _ _) All2.nil))), by simp [Q4.e]; exact ⟨rfl, rfl, rfl, rfl⟩⟩
  refine (quiet_calls (vals := [.agg p.e.toArray, .agg q.e.toArray]) (All2.cons (ha p) (All2.cons (ha q) All2.nil)) h).mono ?_
  rintro e w' ⟨Γ', v, rfl, hv, hg⟩
  cases hv
  exact ⟨rfl, hg⟩
def srRen : Go.Shelf.Ren := ⟨fun | 6 => 128 | 14 => 185 | 15 => 186 | 20 => 239 | 21 => 240 | 22 => 241 | 23 => 242 | 24 => 243 | 25 => 244 | 26 => 245 | 27 => 246 | 28 => 247 | 29 => 248 | 46 => 276 | 47 => 277 | 48 => 278 | 49 => 279 | 50 => 280 | 57 => 292 | n => n, fun | 0 => 0 | 3 => 3 | 4 => 4 | 5 => 5 | 9 => 9 | 22 => 111 | 24 => 108 | 25 => 175 | 39 => 190 | 45 => 269 | 46 => 270 | 50 => 274 | 53 => 237 | 55 => 195 | 66 => 297 | 70 => 301 | 76 => 307 | 77 => 308 | n => n, fun n => n⟩
theorem sr_Lays : SlLaysF0.n6 Tryz.prog srRen := {
  mixed := by kernel_rfl
  f6 := ⟨"slices.SortFunc[[][4]int,[4]int]", by kernel_rfl, by kernel_rfl⟩
  f14 := ⟨"slices.pdqsortCmpFunc[[4]int]", by kernel_rfl, by kernel_rfl⟩
  f15 := by kernel_rfl
  f20 := ⟨"slices.insertionSortCmpFunc[[4]int]", by kernel_rfl, by kernel_rfl⟩
  f21 := ⟨"slices.heapSortCmpFunc[[4]int]", by kernel_rfl, by kernel_rfl⟩
  f22 := ⟨"slices.breakPatternsCmpFunc[[4]int]", by kernel_rfl, by kernel_rfl⟩
  f23 := ⟨"slices.choosePivotCmpFunc[[4]int]", by kernel_rfl, by kernel_rfl⟩
  f24 := ⟨"slices.reverseRangeCmpFunc[[4]int]", by kernel_rfl, by kernel_rfl⟩
  f25 := ⟨"slices.partialInsertionSortCmpFunc[[4]int]", by kernel_rfl, by kernel_rfl⟩
  f26 := ⟨"slices.partitionEqualCmpFunc[[4]int]", by kernel_rfl, by kernel_rfl⟩
  f27 := ⟨"slices.partitionCmpFunc[[4]int]", by kernel_rfl, by kernel_rfl⟩
  f28 := by kernel_rfl
  f29 := by kernel_rfl
  f46 := ⟨"slices.siftDownCmpFunc[[4]int]", by kernel_rfl, by kernel_rfl⟩
  f47 := by kernel_rfl
  f48 := by kernel_rfl
  f49 := ⟨"slices.medianAdjacentCmpFunc[[4]int]", by kernel_rfl, by kernel_rfl⟩
  f50 := ⟨"slices.medianCmpFunc[[4]int]", by kernel_rfl, by kernel_rfl⟩
  f57 := ⟨"slices.order2CmpFunc[[4]int]", by kernel_rfl, by kernel_rfl⟩
  t0 := by kernel_rfl
  a0 := fun _ => by kernel_rfl
  z0 := fun _ => by kernel_rfl
  v0 := fun _ => by kernel_rfl
  t3 := by kernel_rfl
  a3 := fun _ => by kernel_rfl
  z3 := fun _ => by kernel_rfl
  v3 := fun _ => by kernel_rfl
  t4 := by kernel_rfl
  a4 := fun _ => by kernel_rfl
  z4 := fun _ => by kernel_rfl
  v4 := fun _ => by kernel_rfl
  t5 := by kernel_rfl
  a5 := fun _ => by kernel_rfl
  z5 := fun _ => by kernel_rfl
  v5 := fun _ => by kernel_rfl
  t9 := by kernel_rfl
  a9 := fun _ => by kernel_rfl
  z9 := fun _ => by kernel_rfl
  v9 := fun _ => by kernel_rfl
  t22 := by kernel_rfl
  a22 := fun _ => by kernel_rfl
  z22 := fun _ => by kernel_rfl
  v22 := fun _ => by kernel_rfl
  t25 := by kernel_rfl
  a25 := fun _ => by kernel_rfl
  z25 := fun _ => by kernel_rfl
  v25 := fun _ => by kernel_rfl
  t39 := by kernel_rfl
  a39 := fun _ => by kernel_rfl
  z39 := fun _ => by kernel_rfl
  v39 := fun _ => by kernel_rfl
  t45 := by kernel_rfl
  a45 := fun _ => by kernel_rfl
  z45 := fun _ => by kernel_rfl
  v45 := fun _ => by kernel_rfl
  t46 := by kernel_rfl
  a46 := fun _ => by kernel_rfl
  z46 := fun _ => by kernel_rfl
  v46 := fun _ => by kernel_rfl
  t50 := by kernel_rfl
  a50 := fun _ => by kernel_rfl
  z50 := fun _ => by kernel_rfl
  v50 := fun _ => by kernel_rfl
  t53 := by kernel_rfl
  a53 := fun _ => by kernel_rfl
  z53 := fun _ => by kernel_rfl
  v53 := fun _ => by kernel_rfl
  t55 := by kernel_rfl
  a55 := fun _ => by kernel_rfl
  z55 := fun _ => by kernel_rfl
  v55 := fun _ => by kernel_rfl
  t66 := by kernel_rfl
  a66 := fun _ => by kernel_rfl
  z66 := fun _ => by kernel_rfl
  v66 := fun _ => by kernel_rfl
  t70 := by kernel_rfl
  a70 := fun _ => by kernel_rfl
  z70 := fun _ => by kernel_rfl
  v70 := fun _ => by kernel_rfl
  t76 := by kernel_rfl
  a76 := fun _ => by kernel_rfl
  z76 := fun _ => by kernel_rfl
  v76 := fun _ => by kernel_rfl
  t77 := by kernel_rfl
  a77 := fun _ => by kernel_rfl
  z77 := fun _ => by kernel_rfl
  v77 := fun _ => by kernel_rfl
 }
theorem Q4.ext' {p q : Q4} (h1 : p.a = q.a) (h2 : p.b = q.b) (h3 : p.c = q.c) (h4 : p.d = q.d) : p = q := by
  cases p; cases q; simp only at *; subst h1 h2 h3 h4; rfl
abbrev cfQ (x y : Q4) : Int := cmpL x.l y.l
theorem swoQ : SWO (ltOf cfQ) := by
  refine ⟨fun x => ?_, fun x y z h1 h2 => ?_, fun x y z h1 h2 => ?_⟩
  · simp only [ltOf, decide_eq_false_iff_not, cfQ, cmp_lt]; omega
  · simp only [ltOf, decide_eq_true_eq, cfQ, cmp_lt] at *; omega
  · simp only [ltOf, decide_eq_false_iff_not, cfQ, cmp_lt] at *; omega
theorem totQ (x y : Q4) (h1 : (ltOf cfQ) x y = false) (h2 : (ltOf cfQ) y x = false) : x = y := by
  simp only [ltOf, decide_eq_false_iff_not, cfQ, cmp_lt] at h1 h2
  refine Q4.ext' ?_ ?_ ?_ ?_ <;> omega
section
variable {Γ : Ctx}
theorem rowcells_vals : ∀ (l : List Q4) {vs : List Value}, All2 (RW Γ) vs (cellsQ l) → vs = l.flatMap Q4.e
  | [], vs, h => h.nil_iff
  | q :: l, vs, h => by
    obtain ⟨v1, vs, rfl, h1, h⟩ := All2.uncons h
    obtain ⟨v2, vs, rfl, h2, h⟩ := h.uncons
    obtain ⟨v3, vs, rfl, h3, h⟩ := h.uncons
    obtain ⟨v4, vs, rfl, h4, h⟩ := h.uncons
    have := rowcells_vals l h
    subst this
    cases h1; cases h2; cases h3; cases h4
    rfl
theorem vals_cells : ∀ l : List Q4, All2 (RW Γ) (l.flatMap Q4.e) (cellsQ l)
  | [] => All2.nil
  | q :: l => All2.cons (RD.int _ _) (All2.cons (RD.int _ _) (All2.cons (RD.int _ _) (All2.cons (RD.int _ _) (vals_cells l))))
end
theorem flat_get4 : ∀ (l : List Q4) (t : Nat), t < l.length * 4 → (l.flatMap Q4.e)[t]? = some ((Q4.e (l.toArray[t / 4]!))[t % 4]!)
  | [], t, h => by simp at h
  | q :: l, t, h => by
    have e : (q :: l).flatMap Q4.e = .int .i64 q.a :: .int .i64 q.b :: .int .i64 q.c :: .int .i64 q.d :: l.flatMap Q4.e := rfl
    rw [e]
    match t with
    | 0 => rfl
    | 1 => rfl
    | 2 => rfl
    | 3 => rfl
    | t + 4 =>
      have h2 : t < l.length * 4 := by simp at h; omega
      have h3 := flat_get4 l t h2
      simp only [List.getElem?_cons_succ]
      rw [h3, show (t + 4) / 4 = t / 4 + 1 by omega, show (t + 4) % 4 = t % 4 by omega]
      simp
theorem flatK_e (l : List Q4) : flatK Q4.e 4 l.toArray = (l.flatMap Q4.e).toArray := by
  have hlen : (l.flatMap Q4.e).length = l.length * 4 := by
    induction l with
    | nil => rfl
    | cons q l ih =>
      have e : (q :: l).flatMap Q4.e = q.e ++ l.flatMap Q4.e := rfl
      rw [e, List.length_append, ih, List.length_cons]
      simp only [Q4.e, List.length_cons, List.length_nil]
      omega
  refine ext_get! (by simp [hlen]) fun t ht => ?_
  have ht' : t < l.length * 4 := by simpa using ht
  rw [get_flatK _ _ _ t (by simpa using ht')]
  have := flat_get4 l t ht'
  have e2 : ((l.flatMap Q4.e).toArray)[t]! = (Q4.e (l.toArray[t / 4]!))[t % 4]! := by rw [getElem!_def, List.getElem?_toArray, this]
  rw [e2]

theorem put_new (vs : Array Value) (l : List Q4) (h : l.length * 4 ≤ vs.size) : putCells id 0 (l.flatMap Q4.e).toArray vs = (l.flatMap Q4.e ++ vs.toList.drop (l.length * 4)).toArray := by
  have hlen : (l.flatMap Q4.e).length = l.length * 4 := by
    have := congrArg Array.size (flatK_e l)
    simpa using this.symm
  apply Array.ext_getElem?
  intro i
  unfold putCells
  simp only [Array.getElem?_mapIdx, List.getElem?_toArray, List.size_toArray, hlen, Nat.zero_le, true_and, Nat.zero_add, Nat.sub_zero, id]
  by_cases hi : i < l.length * 4
  · have h1 : vs[i]? = some vs[i] := Array.getElem?_eq_getElem (by omega)
    rw [h1, Option.map_some, if_pos hi, List.getElem?_append_left (by omega), flat_get4 l i hi, getElem!_def, List.getElem?_toArray, flat_get4 l i hi]
  · rw [List.getElem?_append_right (by omega), List.getElem?_drop, hlen, show l.length * 4 + (i - l.length * 4) = i by omega, Array.getElem?_toList]
    cases vs[i]? with
    | none => rfl
    | some v => rw [Option.map_some, if_neg hi]
theorem compare_enters : ∀ args w, (callFunc 129 args).run Tryz.prog w = .ok (.enter 129 args) w := by
  intro args w
  simp only [callFunc, Sem.run_bind, run_program, Result.andThen_ok, Tryz.func129]
  rfl
theorem xt_sort : xtL.lookup 128 = some 3 := rfl
theorem sort_enters : Enters Tryz.prog 128 := ⟨_, Tryz.func128, by kernel_rfl, rfl⟩
theorem SortFunc_ev (l : List Q4) (hn : l.length ≤ 1000000) : Evt fun k => ∀ rest ro gl o m, gl[o]? = some (cellsQ l ++ rest) → ro ≤ o → 0 < l.length → ev k 128 [.w (.gsl o 0 l.length m 4), .w (.fn 129 [])] ro gl = some (V.no, gl.set o (cellsQ (sortQ l) ++ rest)) := by
  refine ⟨1, fun k hk rest ro gl o m hg hro h0 => ?_⟩
  obtain ⟨k, rfl⟩ : ∃ m, k = m + 1 := ⟨k - 1, by omega⟩
  have hx : xt 128 = some (natX Tryz.prog 3) := by rw [xt, xt_sort]; rfl
  show evF Tryz.prog cf xt (k + 1) 128 _ ro gl = _
  simp only [evF, hx]
  have hcl := cellsQ_len l
  have hlo : o < gl.length := (List.getElem?_eq_some_iff.1 hg).1
  refine natS_go (r := (V.no, gl.set o (cellsQ (sortQ l) ++ rest))) ?_ (.inl ⟨sort_enters, fun Γ vals hI => ?_⟩) (fun h => ⟨take_set_le _ _ _ _ hro, by simpa using h⟩)
  · have h1 : (cellsQ l ++ rest).take (l.length * 4) = cellsQ l := by rw [← hcl]; exact List.take_left
    have h2 : (cellsQ l ++ rest).drop (l.length * 4) = rest := by rw [← hcl]; exact List.drop_left
    simp only [specS, hg, Option.bind_some, h1, h2, q4W_cells, Option.map_some]
  · obtain ⟨u, v, rfl, hu, hv⟩ := two_vals hI
    obtain ⟨c, rfl, b1, b2, b3, b4, b5⟩ := hu
    obtain ⟨hv, _⟩ := hv
    simp only [List.map_nil] at hv
    subst hv
    have hne : cellsQ l ++ rest ≠ [] := by
      intro e
      have := congrArg List.length e
      simp only [List.length_append, List.length_nil, hcl] at this
      omega
    obtain ⟨vs, ty, e1, e2, e3, e4, e5, e6⟩ := hI.globs o _ hg hne
    have hvl : (cellsQ l ++ rest).length ≤ vs.toList.length := by
      have := e2.1
      simp only [List.length_take, Array.length_toList] at this ⊢
      omega
    have hvs : l.length * 4 ≤ vs.size := by
      simp only [List.length_append, hcl, Array.length_toList] at hvl
      omega
    have htk : vs.toList.take (l.length * 4) = l.flatMap Q4.e := by
      refine rowcells_vals (Γ := Γ) l ?_
      have h1 := e2.take (l.length * 4)
      rw [List.take_take, Nat.min_eq_left (by simp [hcl])] at h1
      rw [show (cellsQ l ++ rest).take (l.length * 4) = cellsQ l by rw [← hcl]; exact List.take_left] at h1
      exact h1
    have hH : HoldsK Q4.e 4 Γ.w (Γ.glo o) 0 l.toArray := by
      unfold HoldsK
      rw [flatK_e]
      intro j hj
      have hj' : j < l.length * 4 := by
        have := congrArg List.length htk
        simp only [List.length_take, Array.length_toList] at this
        simp only [List.size_toArray] at hj
        omega
      refine ⟨?_, ?_⟩
      · have hx2 : (l.flatMap Q4.e)[j]? = vs.toList[j]? := by rw [← htk, List.getElem?_take_of_lt hj']
        have hx3 : vs[j]? = some vs[j] := Array.getElem?_eq_getElem (by omega)
        have hx4 : ((l.flatMap Q4.e).toArray)[j]? = some vs[j] := by
          rw [show ((l.flatMap Q4.e).toArray)[j]? = (l.flatMap Q4.e)[j]? from by simp, hx2, Array.getElem?_toList, hx3]
        rw [Nat.zero_add, cell_of_heap e1, hx3, getElem!_def, hx4]
        rfl
      · simp [World.frozen?, e1]
    have hblk := hI.ownlt (Γ.glo o) (by rw [e3]; simp)
    have key := AnyQ.slices_SortFunc_total sr_Lays 4 (fun _ => by kernel_rfl) (fun _ => by kernel_rfl) Q4.e (fun _ => rfl) (fun x v hv => by simp only [Q4.e, List.mem_cons, List.not_mem_nil, or_false] at hv; rcases hv with rfl | rfl | rfl | rfl <;> rfl) cfQ swoQ 129 #[] (Γ.glo o) 0 c l.toArray Γ.w
      compare_enters (fun m os dk _ x y => compare_calls x y _) hH hblk (by simp; omega) totQ
    have key' : Calls Tryz.prog 128 #[.slice (some ⟨Γ.glo o, 0, none⟩) l.length c, .func (.func 129) #[] #[]] Γ.w _ := key
    refine key'.mono ?_
    rintro e w' ⟨rfl, nn, os, rfl⟩
    have hsl : (sortQ l).length = l.length := List.length_mergeSort _
    have hsq : (l.toArray.toList.mergeSort fun x y => !(ltOf cfQ) y x) = sortQ l := rfl
    rw [hsq]
    have hw : sortWorldK Q4.e 4 Γ.w (Γ.glo o) 0 nn (sortQ l).toArray os = grow (mapBlock (Go.Sort.ahead Γ.w nn) (Γ.glo o) (putCells id 0 ((sortQ l).flatMap Q4.e).toArray)) os := by
      unfold sortWorldK putRowK putRow
      rw [flatK_e]
    rw [hw]
    obtain ⟨new, hnew⟩ : ∃ new, new = ((sortQ l).flatMap Q4.e ++ vs.toList.drop (l.length * 4)).toArray := ⟨_, rfl⟩
    have hput : putCells id 0 ((sortQ l).flatMap Q4.e).toArray vs = new := by rw [hnew, put_new vs (sortQ l) (by rw [hsl]; exact hvs), hsl]
    have hfl : ((sortQ l).flatMap Q4.e).length = l.length * 4 := by
      have := congrArg Array.size (flatK_e (sortQ l))
      rw [size_flatK] at this
      simp only [List.size_toArray, hsl] at this
      exact this.symm
    have hnsz : new.size = vs.size := by rw [hnew]; simp [hfl]; omega
    have hcl2 : (cellsQ (sortQ l)).length = l.length * 4 := by rw [cellsQ_len, hsl]
    have hdr : (cellsQ l ++ rest).drop (l.length * 4) = rest := by rw [← hcl]; exact List.drop_left
    have A1 : All2 (RW Γ) (new.toList.take (cellsQ (sortQ l) ++ rest).length) (cellsQ (sortQ l) ++ rest) := by
      have h1 : new.toList.take (cellsQ (sortQ l) ++ rest).length = (sortQ l).flatMap Q4.e ++ (vs.toList.take (cellsQ l ++ rest).length).drop (l.length * 4) := by
        rw [hnew]
        simp only [List.length_append, hcl2, hcl]
        rw [List.take_append, List.take_of_length_le (by omega), hfl, List.drop_take]
      rw [h1]
      refine (vals_cells (sortQ l)).append ?_
      have := e2.drop (l.length * 4)
      rwa [hdr] at this
    have A2 : ∀ u ∈ new.toList, u.oneCell' = true := by
      intro u hu
      rw [hnew] at hu
      simp only [List.mem_append] at hu
      rcases hu with hu | hu
      · obtain ⟨q, _, hq⟩ := List.mem_flatMap.1 hu
        simp only [Q4.e, List.mem_cons, List.not_mem_nil, or_false] at hq
        rcases hq with rfl | rfl | rfl | rfl <;> rfl
      · exact e4 u (List.mem_of_mem_drop hu)
    have A3 : ∀ c ∈ cellsQ (sortQ l) ++ rest, W.free c = true := by
      intro c' hc'
      rcases List.mem_append.1 hc' with hc' | hc'
      · obtain ⟨q, _, hq⟩ := List.mem_flatMap.1 hc'
        simp only [Q4.ws, List.mem_cons, List.not_mem_nil, or_false] at hq
        rcases hq with rfl | rfl | rfl | rfl <;> rfl
      · exact e5 c' (List.mem_append_right _ hc')
    obtain ⟨k1, k2⟩ := hI.setGlo (ql := False) (new := new) (cs' := cellsQ (sortQ l) ++ rest) hg hne e1 hnsz A1 A2 A3
    have hheap : ∀ g, g < Γ.w.heap.size → (grow (mapBlock (Go.Sort.ahead Γ.w nn) (Γ.glo o) (putCells id 0 ((sortQ l).flatMap Q4.e).toArray)) os).heap[g]? = (Γ.w.setRow (Γ.glo o) new).heap[g]? := by
      intro g hlt
      show ((Γ.w.heap.modify (Γ.glo o) (onCells _)) ++ os)[g]? = _
      rw [Array.getElem?_append_left (by simpa using hlt)]
      by_cases hgo : Γ.glo o = g
      · rw [← hgo, setRow_heap _ _ _ _ _ _ e1, Array.getElem?_modify, if_pos rfl, e1]
        simp only [Option.map_some, onCells, hput]
      · rw [setRow_other _ _ _ _ (Ne.symm hgo), Array.getElem?_modify, if_neg hgo]
    have hs1 : (Γ.w.setRow (Γ.glo o) new).heap.size = Γ.w.heap.size := by simp [World.setRow]
    have g : Grow (Γ.setRow (Γ.glo o) new) { Γ.setRow (Γ.glo o) new with w := grow (mapBlock (Go.Sort.ahead Γ.w nn) (Γ.glo o) (putCells id 0 ((sortQ l).flatMap Q4.e).toArray)) os } :=
      ⟨rfl, rfl, rfl, rfl, rfl, rfl, rfl, rfl, rfl, rfl, by
        show (Γ.w.setRow _ _).heap.size ≤ ((Γ.w.heap.modify (Γ.glo o) (onCells _)) ++ os).size
        rw [hs1]
        simp, fun g hlt => hheap g (by rw [← hs1]; exact hlt), fun _ h => h, fun _ h => .inl h, Nat.le_add_right _ _⟩
    exact ⟨_, _, rfl, rfl, k1.trans (k2.step_of_grow g), res_inv (k2.grow g) (y := V.no) (v := .tuple #[]) ⟨#[], rfl, All2.nil⟩⟩
end Go.Proofs.YtckonoejmjblfaaGreatDoor.Ev
