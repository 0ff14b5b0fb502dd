/- More operations that turn nothing: values built, slices cut, operators. -/
import Derived.Test.YtckonoejmjblfaaGreatEvC
import Derived.Laws.StructEq
import Derived.Laws.IdiomStrings
set_option linter.unusedVariables false
set_option linter.unusedSimpArgs false
namespace Go.Proofs.YtckonoejmjblfaaGreat.Ev
open Go Go.RowKit

theorem foldl_set (off : Nat) : ∀ (vs : List Value) (k : Nat) (arr : Array Value), off + k + vs.length ≤ arr.size →
    ((vs.zipIdx k).foldl (fun cs (p : Value × Nat) => cs.setIfInBounds (off + p.2) p.1) arr).toList = arr.toList.take (off + k) ++ vs ++ arr.toList.drop (off + k + vs.length)
  | [], k, arr, h => by simp
  | v :: r, k, arr, h => by
    simp only [List.length_cons] at h
    simp only [List.zipIdx_cons, List.foldl_cons]
    rw [foldl_set off r (k + 1) (arr.setIfInBounds (off + k) v) (by simp; omega)]
    have hlt : off + k < arr.toList.length := by simp; omega
    simp only [Array.toList_setIfInBounds, List.length_cons]
    rw [show off + (k + 1) = (off + k) + 1 by omega, show off + k + (r.length + 1) = off + k + 1 + r.length by omega]
    rw [List.drop_set_of_lt (by omega), List.take_set, List.take_succ_eq_append_getElem hlt]
    rw [List.set_append_right _ _ (by simp; omega)]
    simp only [List.length_take, Nat.min_eq_left (Nat.le_of_lt hlt), Nat.sub_self, List.set_cons_zero, List.append_assoc, List.cons_append, List.nil_append]

theorem paste_spec {α : Type} {cs new r : List α} {off : Nat} (h : paste cs off new = some r) : off + new.length ≤ cs.length ∧ r = cs.take off ++ new ++ cs.drop (off + new.length) ∧ r.length = cs.length := by
  unfold paste at h
  split at h
  · cases h
    refine ⟨by assumption, rfl, ?_⟩
    simp only [List.length_append, List.length_take, List.length_drop]
    omega
  · cases h
theorem All2.paste {α β : Type} {R : α → β → Prop} {xs vs : List α} {ys ws r : List β} {off : Nat} (k : All2 R xs ys) (k' : All2 R vs ws) (h : paste ys off ws = some r) : All2 R (xs.take off ++ vs ++ xs.drop (off + vs.length)) r := by
  obtain ⟨_, rfl, _⟩ := paste_spec h
  rw [k'.1]
  exact ((k.take off).append k').append (k.drop _)

section
variable {P : Program} {Γ : Ctx}

theorem fill_sound (pl : Nat → Option (Nat × Nat)) : ∀ (ps : List (Nat × C)) (vs : List (Nat × Value)) (cells : Array Value) (ws r : List W), All2 (RW Γ) cells.toList ws → (∀ u ∈ cells.toList, u.oneCell' = true) →
    All2 (fun (a : Nat × Value) (b : Nat × C) => a.1 = b.1 ∧ RC Γ a.2 b.2 ∧ b.2.known = true) vs ps → fillW pl ws ps = some r →
    ∃ cells' : Array Value, Instr.fill pl cells vs = some cells' ∧ All2 (RW Γ) cells'.toList r ∧ ∀ u ∈ cells'.toList, u.oneCell' = true
  | [], vs, cells, ws, r, h, h1, hp, hf => by
    have := hp.nil_iff
    subst this
    simp only [fillW, Option.some.injEq] at hf
    subst hf
    exact ⟨cells, rfl, h, h1⟩
  | (i, c) :: ps, vs, cells, ws, r, h, h1, hp, hf => by
    obtain ⟨⟨i', v⟩, vs', rfl, ⟨rfl, hc, hk⟩, hp'⟩ := hp.uncons
    simp only [fillW, Option.bind_eq_some_iff] at hf
    obtain ⟨⟨off, size⟩, hpl, hf⟩ := hf
    split at hf
    · rename_i hsz
      rw [Option.bind_eq_some_iff] at hf
      obtain ⟨ws', hpaste, hf⟩ := hf
      obtain ⟨hcells, hone⟩ := hc.cells hk
      obtain ⟨hle, _, _⟩ := paste_spec hpaste
      simp only at hle hsz
      have hl1 := hcells.1
      have hl2 := h.1
      simp only [Array.length_toList] at hl1 hl2
      have hfold := foldl_set off v.cells.toList 0 cells (by simp; omega)
      simp only [Nat.add_zero] at hfold
      have key := fill_sound pl ps vs' (v.cells.zipIdx.foldl (fun cs (p : Value × Nat) => cs.setIfInBounds (off + p.2) p.1) cells) ws' r
        (by rw [← Array.foldl_toList, Array.toList_zipIdx, hfold]; exact h.paste hcells hpaste)
        (by
          rw [← Array.foldl_toList, Array.toList_zipIdx, hfold]
          intro u hu
          simp only [List.mem_append] at hu
          rcases hu with (hu | hu) | hu
          · exact h1 u (List.mem_of_mem_take hu)
          · exact hone u hu
          · exact h1 u (List.mem_of_mem_drop hu)) hp' hf
      obtain ⟨cells', hfill, hr⟩ := key
      refine ⟨cells', ?_, hr⟩
      simp only [Instr.fill, hpl]
      rw [if_neg (by simp; omega)]
      exact hfill
    · cases hf

theorem parts_sound {B : Nat} {s : St} {a : Act} (hI : Inv Γ B s a) : ∀ (l : List (Nat × Operand)) (ps : List (Nat × C)), partsOf s l = some ps →
    All2 (fun (a : Nat × Value) (b : Nat × C) => a.1 = b.1 ∧ RC Γ a.2 b.2 ∧ b.2.known = true) (l.map fun (p : Nat × Operand) => (p.1, a.eval p.2)) ps
  | [], ps, h => by simp only [partsOf, Option.some.injEq] at h; subst h; exact All2.nil
  | (i, x) :: r, ps, h => by
    simp only [partsOf, Option.bind_eq_some_iff, Option.map_eq_some_iff] at h
    obtain ⟨v, hv, c, hc, b, hb, rfl⟩ := h
    obtain ⟨h1, h2⟩ := comp_sound (ev_sound hI hv) hc
    exact All2.cons ⟨rfl, h1, h2⟩ (parts_sound hI r b hb)

theorem run_places (w : World) : ∀ (fs : List Field) (pl : List (Nat × Nat)), placesA P fs = some pl → (fs.mapM (m := Sem) fun f => do pure (f.offset, ← sizeOf f.type)).run P w = .ok pl w
  | [], pl, h => by simp only [placesA, Option.some.injEq] at h; subst h; simp
  | f :: r, pl, h => by
    simp only [placesA, Option.bind_eq_some_iff, Option.map_eq_some_iff] at h
    obtain ⟨n, hn, b, hb, rfl⟩ := h
    simp only [List.mapM_cons, Sem.run_bind, run_szOf hn, Result.andThen_ok, Sem.run_pure, run_places w r b hb]

theorem build_sound {B : Nat} {s : St} {a : Act} (hI : Inv Γ B s a) {t : TypeId} {l : Array (Nat × Operand)} {x : V} (hx : buildA P s t l.toList = some x) :
    ∃ u, (Instr.build t (l.map fun (i, x) => (i, a.eval x))).run P Γ.w = .ok u Γ.w ∧ RV Γ u x := by
  unfold buildA at hx
  simp only [Option.bind_eq_some_iff] at hx
  obtain ⟨z, hz, ps, hps, hx⟩ := hx
  obtain ⟨z0, hz0, hrun⟩ := run_zeroC hz
  obtain ⟨hc, hk⟩ := constC_sound (Γ := Γ) hz0
  obtain ⟨hcells, hone⟩ := hc.cells hk
  have hp := parts_sound hI _ _ hps
  have hl : (l.map fun (p : Nat × Operand) => (p.1, a.eval p.2)).toList = l.toList.map fun (p : Nat × Operand) => (p.1, a.eval p.2) := by simp
  rw [← hl] at hp
  split at hx
  · rename_i fs hu
    rw [Option.bind_eq_some_iff] at hx
    obtain ⟨pl, hpl, hx⟩ := hx
    rw [Option.map_eq_some_iff] at hx
    obtain ⟨ws, hws, rfl⟩ := hx
    obtain ⟨cells', hf, h1, h2⟩ := fill_sound (fun (i : Nat) => pl[i]?) ps _ _ _ _ hcells hone hp hws
    refine ⟨.agg cells', ?_, cells', rfl, h1, h2⟩
    have hm : (fs.mapM (m := Sem) fun f => do pure (f.offset, ← sizeOf f.type)).run P Γ.w = .ok pl.toArray Γ.w := by
      rw [Array.mapM_eq_mapM_toList, Sem.run_map, run_places Γ.w _ _ hpl]
      rfl
    have hf' : Instr.fill (fun (x : Nat) => pl.toArray[x]?) z0.cells (l.map fun (p : Nat × Operand) => (p.1, a.eval p.2)).toList = some cells' := by
      have : (fun (x : Nat) => pl.toArray[x]?) = fun (i : Nat) => pl[i]? := by funext i; simp
      rw [this]
      exact hf
    simp only [Instr.build, Sem.run_bind, hrun, Result.andThen_ok, run_underlying hu, hm, hf', Sem.run_pure]
  · rename_i n e hu
    rw [Option.bind_eq_some_iff] at hx
    obtain ⟨n', hn, hx⟩ := hx
    rw [Option.map_eq_some_iff] at hx
    obtain ⟨ws, hws, rfl⟩ := hx
    obtain ⟨cells', hf, h1, h2⟩ := fill_sound (fun i => some (i * n', n')) ps _ _ _ _ hcells hone hp hws
    refine ⟨.agg cells', ?_, cells', rfl, h1, h2⟩
    simp only [Instr.build, Sem.run_bind, hrun, Result.andThen_ok, run_underlying hu, run_szOf hn, hf, Sem.run_pure]
  · cases hx

theorem close_sound {v : Value} {x : W} {d : D} (h : RW Γ v x) (hx : W.close x = some d) : RD Γ.F Γ.w v d := by
  unfold W.close at hx
  split at hx
  · cases hx; exact h
  · cases hx; exact h.1
  · cases hx; exact h.1
  · cases hx
theorem closes_sound : ∀ {vs : List Value} {ws : List W} {ds : List D}, All2 (RW Γ) vs ws → closes ws = some ds → All2 (RD Γ.F Γ.w) vs ds
  | vs, [], ds, h, hx => by
    simp only [closes, Option.some.injEq] at hx
    subst hx
    rw [h.nil_iff]
    exact All2.nil
  | vs, x :: r, ds, h, hx => by
    simp only [closes, Option.bind_eq_some_iff, Option.map_eq_some_iff] at hx
    obtain ⟨d, hd, b, hb, rfl⟩ := hx
    obtain ⟨v, vs', rfl, h1, h2⟩ := h.uncons
    exact All2.cons (close_sound h1 hd) (closes_sound h2 hb)

theorem repeatW_len (z : List W) : ∀ n, (repeatW n z).length = n * z.length
  | 0 => by simp [repeatW]
  | n + 1 => by simp [repeatW, repeatW_len z n, Nat.add_mul]; omega
theorem repeatW_get (z : List W) (hz : 0 < z.length) : ∀ (n i : Nat), i < n * z.length → (repeatW n z)[i]? = z[i % z.length]?
  | 0, i, h => by simp at h
  | n + 1, i, h => by
    simp only [repeatW]
    by_cases hi : i < z.length
    · rw [List.getElem?_append_left hi, Nat.mod_eq_of_lt hi]
    · rw [List.getElem?_append_right (by omega), repeatW_get z hz n (i - z.length) (by have := Nat.add_mul n 1 z.length; omega)]
      congr 1
      exact (Nat.mod_eq_sub_mod (by omega)).symm
theorem chunk_len {α : Type} (sz : Nat) : ∀ (n : Nat) (cs : List α), (chunk sz n cs).length = n
  | 0, _ => rfl
  | n + 1, cs => by simp [chunk, chunk_len sz n]
theorem chunk_get {α : Type} (sz : Nat) : ∀ (n : Nat) (cs : List α) (i : Nat) (x : List α), (chunk sz n cs)[i]? = some x → x = (cs.drop (i * sz)).take sz
  | 0, cs, i, x, h => by simp [chunk] at h
  | n + 1, cs, 0, x, h => by simp [chunk] at h; subst h; simp
  | n + 1, cs, i + 1, x, h => by
    simp only [chunk, List.getElem?_cons_succ] at h
    rw [chunk_get sz n _ i x h, List.drop_drop]
    congr 2
    rw [Nat.add_mul]
    omega

/-- A new block of closed cells is a slice that nobody writes. -/
def Ctx.fresh (Γ : Ctx) (w' : World) : Ctx := { Γ with w := w', F := fun a => Γ.F a ∨ (a.block = Γ.w.heap.size) }
theorem grow_fresh {w' : World} (hos : w'.os = Γ.w.os) (ht : w'.tape = Γ.w.tape) (ho : w'.output = Γ.w.output) (hs : w'.heap.size = Γ.w.heap.size + 1) (hb : ∀ g, g < Γ.w.heap.size → w'.heap[g]? = Γ.w.heap[g]?) (hdr : Γ.w.drawn ≤ w'.drawn := by exact Nat.le_refl _) : Grow Γ (Γ.fresh w') :=
  ⟨rfl, rfl, rfl, rfl, rfl, rfl, rfl, hos, ht, ho, by simp [Ctx.fresh, hs], hb, fun a ha => .inl ha, fun a ha => by
    rcases ha with ha | ha
    · exact .inl ha
    · exact .inr ⟨by simp only [ha]; exact Nat.le_refl _, by simp [Ctx.fresh, ha, hs]⟩, hdr⟩
theorem slice_fresh {B : Nat} {s : St} {a : Act} (hI : Inv Γ B s a) {w' : World} (hg : Grow Γ (Γ.fresh w')) {cells : Array Value} {e : TypeId} {fr : Nat × Nat} (hh : w'.heap[Γ.w.heap.size]? = some (.cells cells e fr))
    {ds : List D} {n sz cap : Nat} (ha : All2 (RD Γ.F Γ.w) (cells.toList.take ds.length) ds) (hl : ds.length = n * sz) (hc : n ≤ cap) (hm : cap ≤ maxLen) :
    RD (Γ.fresh w').F w' (.slice (some ⟨Γ.w.heap.size, 0, none⟩) n cap) (.sl (chunk sz n ds)) := by
  have u := hI.up_of_grow hg
  have hsize : ds.length ≤ cells.size := by have := ha.1; simp at this; omega
  have hge : ∀ i j, i < n → j < sz → i * sz + j < ds.length := fun i j hi hj => by
    rw [hl]
    calc i * sz + j < i * sz + sz := by omega
      _ = (i + 1) * sz := by rw [Nat.add_mul]; omega
      _ ≤ n * sz := Nat.mul_le_mul_right _ hi
  refine .sl (some ⟨Γ.w.heap.size, 0, none⟩) n cap sz _ (fun i j => cells.getD (i * sz + j) undef) (chunk_len _ _ _) hc hm (fun h => by cases h) (fun i x hx => ?_) (fun a ha' i j hi hj => ?_) (fun i j x d hx hd => ?_)
  · have hi : i < n := by have := (List.getElem?_eq_some_iff.1 hx).1; rwa [chunk_len] at this
    rw [chunk_get sz n ds i x hx]
    simp only [List.length_take, List.length_drop, hl]
    have : (i + 1) * sz ≤ n * sz := Nat.mul_le_mul_right _ hi
    rw [Nat.add_mul] at this
    omega
  · cases ha'
    have := hge i j hi hj
    refine ⟨.inr (by rw [add_block]), ?_⟩
    rw [add_plain, Nat.zero_add, cell_of_heap hh]
    rw [Array.getD_eq_getD_getElem?, Array.getElem?_eq_getElem (by omega)]
    rfl
  · have hi : i < n := by have := (List.getElem?_eq_some_iff.1 hx).1; rwa [chunk_len] at this
    have hxx := chunk_get sz n ds i x hx
    rw [hxx, List.getElem?_take] at hd
    split at hd
    · rename_i hj
      rw [List.getElem?_drop] at hd
      have hlt := hge i j hi hj
      have := ha.2 (i * sz + j) (cells.getD (i * sz + j) undef) d (by
        rw [List.getElem?_take_of_lt hlt, Array.getElem?_toList, Array.getD_eq_getD_getElem?, Array.getElem?_eq_getElem (by omega)]; rfl) hd
      exact this.mono u.F
    · cases hd

theorem buildSlice_sound {B : Nat} {s : St} {a : Act} (hI : Inv Γ B s a) {t : TypeId} {len : Nat} {l : Array (Nat × Operand)} {x : V} (hx : buildSliceA P s t len l.toList = some x) :
    ∃ Γ' u, (Instr.buildSlice t len (l.map fun (i, x) => (i, a.eval x))).run P Γ.w = .ok u Γ'.w ∧ RV Γ' u x ∧ Grow Γ Γ' := by
  unfold buildSliceA at hx
  split at hx
  · rename_i e hu
    simp only [Option.bind_eq_some_iff] at hx
    obtain ⟨n, hn, z, hz, ps, hps, hx⟩ := hx
    split at hx
    · rename_i hcond
      obtain ⟨hzl, hn0, hbig⟩ := hcond
      simp only [Option.bind_eq_some_iff, Option.map_eq_some_iff] at hx
      obtain ⟨ws, hws, ds, hds, rfl⟩ := hx
      obtain ⟨z0, hz0, hrun⟩ := run_zeroC hz
      obtain ⟨hc, hk⟩ := constC_sound (Γ := Γ) hz0
      obtain ⟨hcells, hone⟩ := hc.cells hk
      have hzs : z0.cells.size = n := by have := hcells.1; simp at this; omega
      have hp := parts_sound hI _ _ hps
      have hl : (l.map fun (p : Nat × Operand) => (p.1, a.eval p.2)).toList = l.toList.map fun (p : Nat × Operand) => (p.1, a.eval p.2) := by simp
      rw [← hl] at hp
      have hinit : All2 (RW Γ) (((Array.range (len * n)).map fun i => z0.cells[i % z0.cells.size]!).toList) (repeatW len z.cells) := by
        refine ⟨by simp [repeatW_len, hzl], fun i u b hu hb => ?_⟩
        have hi : i < len * n := by have := (List.getElem?_eq_some_iff.1 hu).1; simpa using this
        rw [repeatW_get z.cells (by omega) len i (by rw [hzl]; exact hi), hzl] at hb
        have hmod : i % n < n := Nat.mod_lt _ hn0
        simp only [Array.toList_map, Array.toList_range, List.getElem?_map, List.getElem?_range hi, Option.map_some, Option.some.injEq] at hu
        subst hu
        refine hcells.2 (i % n) _ b ?_ hb
        rw [hzs, Array.getElem?_toList, getElem!_pos z0.cells (i % n) (by omega), Array.getElem?_eq_getElem (by omega)]
      have hone' : ∀ u ∈ ((Array.range (len * n)).map fun i => z0.cells[i % z0.cells.size]!).toList, u.oneCell' = true := by
        intro u hu
        simp only [Array.toList_map, Array.toList_range, List.mem_map, List.mem_range] at hu
        obtain ⟨i, hi, rfl⟩ := hu
        have hmod : i % n < n := Nat.mod_lt _ hn0
        rw [hzs, getElem!_pos z0.cells (i % n) (by omega)]
        exact hone _ (by simp)
      obtain ⟨cells', hf, h1, h2⟩ := fill_sound (fun i => some (i * n, n)) ps _ _ _ _ hinit hone' hp hws
      have hcl := closes_sound h1 hds
      have hcs : cells'.size = len * n := by
        have a1 := h1.1
        have : ∀ (ps : List (Nat × C)) (ws r : List W), fillW (fun i => some (i * n, n)) ws ps = some r → r.length = ws.length := by
          intro ps
          induction ps with
          | nil => intro ws r h; simp only [fillW, Option.some.injEq] at h; rw [h]
          | cons p ps ih =>
            intro ws r h
            obtain ⟨i, c⟩ := p
            simp only [fillW, Option.bind_eq_some_iff] at h
            obtain ⟨q, hq, h⟩ := h
            split at h
            · rw [Option.bind_eq_some_iff] at h
              obtain ⟨ws', hp', h⟩ := h
              rw [ih _ _ h, (paste_spec hp').2.2]
            · cases h
        have a2 := this _ _ _ hws
        rw [repeatW_len, hzl] at a2
        simp at a1
        omega
      have hg := grow_fresh (Γ := Γ) (w' := { Γ.w with heap := Γ.w.heap.push (.cells cells' e (0, 0)) }) rfl rfl rfl (by simp) (fun g hg => by rw [Array.getElem?_push, if_neg (by omega)])
      have hdl : ds.length = len * n := by have := hcl.1; simp at this; omega
      refine ⟨Γ.fresh { Γ.w with heap := Γ.w.heap.push (.cells cells' e (0, 0)) }, .slice (some ⟨Γ.w.heap.size, 0, none⟩) len len, ?_, ⟨?_, _, _, rfl⟩, hg⟩
      · simp only [Instr.buildSlice, Sem.run_bind, run_underlying hu, Result.andThen_ok, run_szOf hn]
        rw [if_neg (by omega)]
        by_cases h0 : len * n = 0
        · have hlen0 : len = 0 := by
            rcases Nat.mul_eq_zero.1 h0 with h | h <;> omega
          subst hlen0
          simp only [Nat.zero_mul] at hf hinit hcs ⊢
          have hfill : Instr.fill (fun i => some (i * n, n)) ((Array.range 0).map fun i => (#[] : Array Value)[i % (#[] : Array Value).size]!) (l.map fun (p : Nat × Operand) => (p.1, a.eval p.2)).toList = some cells' := by
            have e0 : ∀ (f : Nat → Value), (Array.range 0).map f = #[] := fun f => Array.eq_empty_of_size_eq_zero (by simp)
            rw [e0] at hf ⊢
            exact hf
          simp only [if_true, Sem.run_pure, Result.andThen_ok, Sem.run_bind, hfill, newRow, run_newObj]
          rfl
        · simp only [h0, if_false, Sem.run_bind, Sem.run_map, hrun, Result.andThen_ok, Sem.run_pure, hf, newRow, run_newObj]
          rfl
      · exact slice_fresh hI hg (cells := cells') (e := e) (fr := (0, 0)) (by simp) (by rw [hdl, List.take_of_length_le (by simp [hcs])]; exact hcl) hdl (Nat.le_refl _) (by
          have : len ≤ len * n := Nat.le_mul_of_pos_right _ hn0
          simp only [maxLen]; omega)
    · cases hx
  · cases hx
end
end Go.Proofs.YtckonoejmjblfaaGreat.Ev
