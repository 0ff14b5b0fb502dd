/- The operations that turn nothing: what the plain evaluator says of them is what the machine does. -/
import Derived.Test.YtckonoejmjblfaaGreatEvB
import Derived.Laws.Entries
import Derived.Laws.Cells
import Derived.ChangeKeysEq
set_option linter.unusedVariables false
set_option linter.unusedSimpArgs false
namespace Go.Proofs.YtckonoejmjblfaaGreat.Ev
open Go Go.RowKit

theorem add_add (a : Addr) (x y : Nat) : (a.add x).add y = a.add (x + y) := by
  unfold Addr.add
  by_cases hx : x = 0 <;> by_cases hy : y = 0 <;> simp [hx, hy, Nat.add_assoc]
theorem add_plain (g o n : Nat) : (⟨g, o, none⟩ : Addr).add n = ⟨g, o + n, none⟩ := by unfold Addr.add; split <;> simp_all
theorem add_block (a : Addr) (n : Nat) : (a.add n).block = a.block := by unfold Addr.add; split <;> rfl

theorem cut_spec {α : Type} {cs r : List α} {off n : Nat} (h : cut cs off n = some r) : off + n ≤ cs.length ∧ r = (cs.drop off).take n ∧ r.length = n := by
  unfold cut at h
  split at h
  · cases h; exact ⟨by assumption, rfl, by simp; omega⟩
  · cases h
theorem cut_get {α : Type} {cs r : List α} {off n j : Nat} (h : cut cs off n = some r) (hj : j < n) : r[j]? = cs[off + j]? := by
  obtain ⟨_, rfl, _⟩ := cut_spec h
  rw [List.getElem?_take_of_lt hj, List.getElem?_drop]

section
variable {P : Program} {Γ : Ctx}

theorem run_szOf {t : TypeId} {n : Nat} (h : szOf P t = some n) (w : World) : (sizeOf t).run P w = .ok n w := by
  unfold szOf at h
  rw [Option.map_eq_some_iff] at h
  obtain ⟨i, hi, rfl⟩ := h
  simp [sizeOf, typeInfo, hi]
theorem run_isAggT {t : TypeId} {b : Bool} (h : isAggT P t = some b) (w : World) : (isAgg t).run P w = .ok b w := by
  unfold isAggT at h
  rw [Option.map_eq_some_iff] at h
  obtain ⟨d, hd, rfl⟩ := h
  simp only [isAgg, Sem.run_bind, run_underlying hd, Result.andThen_ok]
  cases d <;> rfl
theorem zeroC_spec {t : TypeId} {c : C} (h : zeroC P t = some c) : ∃ i z, P.info? t = some i ∧ i.zero = some z ∧ constC z = some c := by
  unfold zeroC at h
  rw [Option.bind_eq_some_iff] at h
  obtain ⟨i, hi, h⟩ := h
  rw [Option.bind_eq_some_iff] at h
  obtain ⟨z, hz, h⟩ := h
  exact ⟨i, z, hi, hz, h⟩
theorem run_zeroC {t : TypeId} {c : C} (h : zeroC P t = some c) : ∃ z, constC z = some c ∧ ∀ w, (zeroValue t).run P w = .ok z w := by
  obtain ⟨i, z, hi, hz, hc⟩ := zeroC_spec h
  exact ⟨z, hc, fun w => by simp [zeroValue, typeInfo, hi, hz]⟩

theorem elems_sound {v : Value} {x : W} {xs : List (List D)} (h : RW Γ v x) (hx : W.elems x = some xs) : RD Γ.F Γ.w v (.sl xs) := by
  unfold W.elems at hx
  split at hx
  · cases hx; exact h
  · cases hx; exact h.1
  · cases hx; exact h.1
  · cases hx

theorem move_sound {v : Value} {x y : W} {off : Nat} (h : RW Γ v x) (hm : W.move x off = some y) : ∃ a, v = .pointer (some a) ∧ RW Γ (.pointer (some (a.add off))) y := by
  unfold W.move at hm
  split at hm
  · cases hm
    obtain ⟨a, rfl, vs, h⟩ := h
    refine ⟨a, rfl, a.add off, rfl, fun j => vs (off + j), fun j d hj => ?_⟩
    rw [add_add]
    exact h (off + j) d (by simpa using hj)
  · cases hm
    obtain ⟨rfl, h2⟩ := h
    exact ⟨_, rfl, by rw [add_plain]; rfl, h2⟩
  · cases hm
    obtain ⟨rfl, h2⟩ := h
    exact ⟨_, rfl, by rw [add_plain]; rfl, h2⟩
  · cases hm

theorem cell_of_heap {w : World} {g : Nat} {vs : Array Value} {ty : TypeId} {fr : Nat × Nat} (h : w.heap[g]? = some (.cells vs ty fr)) (o : Nat) : w.cell? ⟨g, o, none⟩ = vs[o]? := by simp [World.cell?, h]

theorem cellsAt_sound {B : Nat} {s : St} {a : Act} (hI : Inv Γ B s a) {v : Value} {x : W} {n : Nat} {ws : List W} (h : RW Γ v x) (hc : s.cellsAt x n = some ws) :
    ∃ ad, v = .pointer (some ad) ∧ ∃ vs : List Value, vs.length = n ∧ All2 (RW Γ) vs ws ∧ (∀ u ∈ vs, u.oneCell' = true) ∧ ∀ (j : Nat) u, vs[j]? = some u → Γ.w.cell? (ad.add j) = some u := by
  have plain : ∀ (g off : Nat) (vs : Array Value) (ty : TypeId) (cs : List W), Γ.w.heap[g]? = some (.cells vs ty (0, 0)) → All2 (RW Γ) (vs.toList.take cs.length) cs → (∀ u ∈ vs.toList, u.oneCell' = true) → cut cs off n = some ws →
      ∃ us : List Value, us.length = n ∧ All2 (RW Γ) us ws ∧ (∀ u ∈ us, u.oneCell' = true) ∧ ∀ (j : Nat) u, us[j]? = some u → Γ.w.cell? ((⟨g, off, none⟩ : Addr).add j) = some u := by
    intro g off vs ty cs hg ha h1 hcut
    obtain ⟨hle, rfl, hlen⟩ := cut_spec hcut
    have hle2 : cs.length ≤ vs.size := by have := ha.1; simp at this; omega
    have e : (vs.toList.drop off).take n = ((vs.toList.take cs.length).drop off).take n := by
      rw [List.drop_take, List.take_take, Nat.min_eq_left (by omega)]
    refine ⟨(vs.toList.drop off).take n, by simp; omega, by rw [e]; exact (ha.drop off).take n, fun u hu => h1 u (List.mem_of_mem_drop (List.mem_of_mem_take hu)), fun j u hu => ?_⟩
    rw [add_plain, cell_of_heap hg]
    rw [List.getElem?_take] at hu
    split at hu
    · simpa using hu
    · cases hu
  unfold St.cellsAt at hc
  split at hc
  · rw [Option.map_eq_some_iff] at hc
    obtain ⟨ds, hds, rfl⟩ := hc
    obtain ⟨ad, rfl, vs, h⟩ := h
    obtain ⟨hle, rfl, hlen⟩ := cut_spec hds
    refine ⟨ad, rfl, (List.range n).map vs, by simp, ⟨by simp; omega, fun i u b hu hb => ?_⟩, fun u hu => ?_, fun j u hu => ?_⟩
    · simp only [List.getElem?_map] at hu hb
      simp only [List.drop_zero, List.getElem?_take] at hb
      by_cases hi : i < n
      · simp only [List.getElem?_range hi, Option.map_some, Option.some.injEq] at hu
        simp only [hi, if_true] at hb
        rw [Option.map_eq_some_iff] at hb
        obtain ⟨d, hd, rfl⟩ := hb
        subst hu
        exact (h i d hd).2.2
      · simp [hi] at hb
    · rw [List.mem_map] at hu
      obtain ⟨j, hj, rfl⟩ := hu
      rw [List.mem_range] at hj
      exact (h j _ (List.getElem?_eq_getElem (by omega))).2.2.oneCell.1
    · have hjl : j < n := by have := (List.getElem?_eq_some_iff.1 hu).1; simpa using this
      rw [List.getElem?_map, List.getElem?_range hjl] at hu
      simp only [Option.map_some, Option.some.injEq] at hu
      subst hu
      exact (h j _ (List.getElem?_eq_getElem (by omega))).2.1
  · rename_i k off
    rw [Option.bind_eq_some_iff] at hc
    obtain ⟨cs, hcs, hc⟩ := hc
    obtain ⟨vs, ty, h1, _, h3, _, h5⟩ := hI.boxes k cs hcs
    obtain ⟨rfl, _⟩ := h
    obtain ⟨us, hu⟩ := plain _ off vs ty cs h1 (by rw [← h3.1, List.take_length]; exact h3) h5 hc
    exact ⟨_, rfl, us, hu⟩
  · rename_i o off
    rw [Option.bind_eq_some_iff] at hc
    obtain ⟨cs, hcs, hc⟩ := hc
    by_cases hne : cs = []
    · subst hne
      obtain ⟨rfl, _⟩ := h
      obtain ⟨h1, rfl, h3⟩ := cut_spec hc
      simp at h1 h3
      exact ⟨_, rfl, [], by simp; omega, by simp [All2.nil], by simp, by simp⟩
    obtain ⟨vs, ty, h1, h3, _, h5, _⟩ := hI.globs o cs hcs hne
    obtain ⟨rfl, _⟩ := h
    obtain ⟨us, hu⟩ := plain _ off vs ty cs h1 h3 h5 hc
    exact ⟨_, rfl, us, hu⟩
  · cases hc

theorem loadC_sound {B : Nat} {s : St} {a : Act} (hI : Inv Γ B s a) {v : Value} {x : V} {t : TypeId} {c : C} (h : RV Γ v x) (hc : s.loadC P t x = some c) :
    ∃ ad, v = .pointer (some ad) ∧ ∃ u, (loadVar t ad).run P Γ.w = .ok u Γ.w ∧ RC Γ u c := by
  unfold St.loadC at hc
  split at hc
  · rename_i y
    rw [Option.bind_eq_some_iff] at hc
    obtain ⟨n, hn, hc⟩ := hc
    rw [Option.bind_eq_some_iff] at hc
    obtain ⟨ws, hws, hc⟩ := hc
    obtain ⟨ad, rfl, vs, hl, ha, h1, hcell⟩ := cellsAt_sound hI h hws
    refine ⟨ad, rfl, ?_⟩
    unfold pack at hc
    rw [Option.bind_eq_some_iff] at hc
    obtain ⟨b, hb, hc⟩ := hc
    cases b with
    | true =>
      simp only [Option.some.injEq] at hc
      subst hc
      have hr := run_loadCells_list (P := P) (w := Γ.w) ad vs hcell
      rw [hl] at hr
      refine ⟨.agg vs.toArray, ?_, vs.toArray, rfl, by simpa using ha, by simpa using h1⟩
      simp [loadVar, run_isAggT hb, run_szOf hn, hr]
    | false =>
      simp only at hc
      split at hc
      · rename_i z
        cases hc
        obtain ⟨u, r, rfl, hu, hr⟩ := ha.uncons
        have h0 := hcell 0 u rfl
        have : ad.add 0 = ad := by simp [Addr.add]
        rw [this] at h0
        refine ⟨u, ?_, hu⟩
        simp [loadVar, run_isAggT hb, h0]
      · cases hc
  · cases hc

theorem run_fieldPlace {f : Field} {n : Nat} (hn : szOf P f.type = some n) (h0 : n ≠ 0) (a : Addr) (w : World) : (fieldPlace a f).run P w = .ok (a.add f.offset) w := by
  simp [fieldPlace, run_szOf hn, h0]
theorem fieldAddr_sound {v : Value} {x y : V} {t : TypeId} {j : Nat} (h : RV Γ v x) (hx : fieldAddrA P t x j = some y) : ∃ u, (Instr.fieldAt t v j).run P Γ.w = .ok u Γ.w ∧ RV Γ u y := by
  unfold fieldAddrA at hx
  split at hx
  · rename_i fs z hu
    simp only [Option.bind_eq_some_iff] at hx
    obtain ⟨f, hf, n, hn, hx⟩ := hx
    split at hx
    · cases hx
    · rename_i h0
      rw [Option.map_eq_some_iff] at hx
      obtain ⟨y, hy, rfl⟩ := hx
      obtain ⟨a, rfl, hr⟩ := move_sound h hy
      refine ⟨_, ?_, hr⟩
      simp [Instr.fieldAt, run_underlying hu, hf, Instr.sureAddr, run_fieldPlace hn h0]
  · cases hx

theorem intOf_sound {v : Value} {x : V} {n : Int} (h : RV Γ v x) (hx : intOfV x = some n) : ∃ k, v = .int k n := by
  unfold intOfV at hx
  split at hx
  · cases hx
    cases h
    exact ⟨_, rfl⟩
  · cases hx

theorem indexAddr_sound {v i : Value} {x iv y : V} {t : TypeId} (h : RV Γ v x) (hi : RV Γ i iv) (hx : indexAddrA P t x iv = some y) : ∃ u, (Instr.indexAt t v i).run P Γ.w = .ok u Γ.w ∧ RV Γ u y := by
  unfold indexAddrA at hx
  rw [Option.bind_eq_some_iff] at hx
  obtain ⟨n, hn, hx⟩ := hx
  obtain ⟨k, rfl⟩ := intOf_sound hi hn
  split at hx
  · rename_i len e x' hu
    rw [Option.bind_eq_some_iff] at hx
    obtain ⟨z, hz, hx⟩ := hx
    split at hx
    · rename_i hr
      have key : ∀ w', W.move x' (n.toNat * z) = some w' → ∃ u, (Instr.indexAt t v (.int k n)).run P Γ.w = .ok u Γ.w ∧ RV Γ u (.c (.w w')) := by
        intro w' hm
        obtain ⟨a, rfl, hr'⟩ := move_sound h hm
        refine ⟨_, ?_, hr'⟩
        simp [Instr.indexAt, asIntOf, run_underlying hu, Instr.sureAddr, hr, run_szOf hz]
      split at hx
      · rw [Option.map_eq_some_iff] at hx
        obtain ⟨y', hy, rfl⟩ := hx
        exact key y' hy
      · rw [Option.map_eq_some_iff] at hx
        obtain ⟨y', hy, rfl⟩ := hx
        exact key y' hy
      · rw [Option.map_eq_some_iff] at hx
        obtain ⟨y', hy, rfl⟩ := hx
        exact key y' hy
      · cases hx
    · cases hx
  · rename_i e o off m c z hu
    rw [Option.bind_eq_some_iff] at hx
    obtain ⟨z', hz, hx⟩ := hx
    split at hx
    · rename_i hr
      obtain ⟨rfl, hr1, hr2⟩ := hr
      cases hx
      obtain ⟨c', rfl, _, _, _, _, ho⟩ := h
      refine ⟨.pointer (some ((⟨Γ.glo o, off, none⟩ : Addr).add (n.toNat * z'))), ?_, by rw [add_plain]; rfl, ho⟩
      simp [Instr.indexAt, asIntOf, run_underlying hu, hr1, hr2, run_szOf hz]
    · cases hx
  · rename_i e x' _ hu
    simp only [Option.bind_eq_some_iff] at hx
    obtain ⟨xs, hxs, z, hz, hx⟩ := hx
    split at hx
    · rename_i hr
      rw [Option.bind_eq_some_iff] at hx
      obtain ⟨y', hy, hx⟩ := hx
      split at hx
      · rename_i hl
        cases hx
        have hd := elems_sound h hxs
        cases hd with
        | sl A m c sz _ vs hm hc hmx hA hsz hcell hdd =>
          have hlt : n.toNat < m := by omega
          cases A with
          | none => have := hA rfl; omega
          | some a =>
            have hs := hsz _ _ hy
            have hzz : sz = z := by omega
            subst hzz
            refine ⟨.pointer (some (a.add (n.toNat * sz))), ?_, a.add (n.toNat * sz), rfl, fun j => vs n.toNat j, fun j d hj => ?_⟩
            · have hr' : 0 ≤ n ∧ n < (m : Int) := by omega
              simp [Instr.indexAt, asIntOf, run_underlying hu, hr', run_szOf hz]
            · rw [add_add]
              have hjl : j < sz := by rw [← hs]; exact (List.getElem?_eq_some_iff.1 hj).1
              obtain ⟨h1, h2⟩ := hcell a rfl n.toNat j hlt hjl
              exact ⟨h1, h2, hdd n.toNat j y' d hy hj⟩
      · cases hx
    · cases hx
  · cases hx

theorem run_part {t : TypeId} {n off : Nat} {cs : Array Value} {ws ys : List W} {c : C} (hn : szOf P t = some n) (ha : All2 (RW Γ) cs.toList ws) (h1 : ∀ u ∈ cs.toList, u.oneCell' = true)
    (hc : cut ws off n = some ys) (hp : pack P t ys = some c) : ∃ u, (part t cs off).run P Γ.w = .ok u Γ.w ∧ RC Γ u c := by
  obtain ⟨hle, rfl, hl⟩ := cut_spec hc
  unfold pack at hp
  rw [Option.bind_eq_some_iff] at hp
  obtain ⟨b, hb, hp⟩ := hp
  have hal := ha.1
  simp at hal
  cases b with
  | true =>
    simp only [Option.some.injEq] at hp
    subst hp
    refine ⟨.agg (cs.extract off (off + n)), by simp [part, run_isAggT hb, run_szOf hn], _, rfl, ?_, fun u hu => h1 u ?_⟩
    · have he : (cs.extract off (off + n)).toList = (cs.toList.drop off).take n := by
        simp [List.extract_eq_take_drop]
      rw [he]
      exact (ha.drop off).take n
    · have he : (cs.extract off (off + n)).toList = (cs.toList.drop off).take n := by
        simp [List.extract_eq_take_drop]
      rw [he] at hu
      exact List.mem_of_mem_drop (List.mem_of_mem_take hu)
  | false =>
    simp only at hp
    split at hp
    · rename_i z hz
      cases hp
      have hn1 : n = 1 := by rw [← hl, hz]; rfl
      subst hn1
      have hoff : off < cs.size := by omega
      refine ⟨cs[off], by simp [part, run_isAggT hb, hoff], ?_⟩
      refine ha.2 off _ z (by simp [hoff]) ?_
      have := cut_get hc (show 0 < 1 by omega)
      rw [hz] at this
      simpa using this.symm
    · cases hp
theorem field_sound {v : Value} {x y : V} {t : TypeId} {j : Nat} (h : RV Γ v x) (hx : fieldA P t x j = some y) : ∃ u, (Instr.field t v j).run P Γ.w = .ok u Γ.w ∧ RV Γ u y := by
  unfold fieldA at hx
  split at hx
  · rename_i fs cs hu
    simp only [Option.bind_eq_some_iff, Option.map_eq_some_iff] at hx
    obtain ⟨f, hf, n, hn, ys, hys, c, hc, rfl⟩ := hx
    obtain ⟨vs, rfl, ha, h1⟩ := h
    obtain ⟨u, hr, hu'⟩ := run_part hn ha h1 hys hc
    exact ⟨u, by simp [Instr.field, run_underlying hu, hf, asAgg, hr], hu'⟩
  · cases hx

theorem str_size {s : ByteArray} {l : List UInt8} (h : s.data.toList = l) : s.size = l.length := by rw [← h, Array.length_toList]; rfl
theorem index_sound {v i : Value} {x iv y : V} {t : TypeId} (h : RV Γ v x) (hi : RV Γ i iv) (hx : indexA P t x iv = some y) : ∃ u, (Instr.index t v i).run P Γ.w = .ok u Γ.w ∧ RV Γ u y := by
  unfold indexA at hx
  rw [Option.bind_eq_some_iff] at hx
  obtain ⟨n, hn, hx⟩ := hx
  obtain ⟨k, rfl⟩ := intOf_sound hi hn
  split at hx
  · rename_i l hu
    split at hx
    · rename_i hr
      rw [Option.map_eq_some_iff] at hx
      obtain ⟨b, hb, rfl⟩ := hx
      cases h with
      | str s _ hl hs =>
        have hsz := str_size hl
        have hb' : s[n.toNat]? = some b := by
          have hlt : n.toNat < s.size := by omega
          rw [getElem?_pos s n.toNat hlt]
          congr 1
          have : l[n.toNat]? = some b := hb
          rw [← hl] at this
          have h2 := (List.getElem?_eq_some_iff.1 this).2
          rw [Array.getElem_toList] at h2
          exact h2
        refine ⟨.int .u8 b.toNat, ?_, RD.int _ _⟩
        simp [Instr.index, asIntOf, run_underlying hu, hr.1, hb']
    · cases hx
  · rename_i len e cs hu
    rw [Option.bind_eq_some_iff] at hx
    obtain ⟨z, hz, hx⟩ := hx
    split at hx
    · rename_i hr
      simp only [Option.bind_eq_some_iff, Option.map_eq_some_iff] at hx
      obtain ⟨ys, hys, c, hc, rfl⟩ := hx
      obtain ⟨vs, rfl, ha, h1⟩ := h
      obtain ⟨u, hr', hu'⟩ := run_part hz ha h1 hys hc
      exact ⟨u, by simp [Instr.index, asIntOf, run_underlying hu, hr, run_szOf hz, hr'], hu'⟩
    · cases hx
  · cases hx

theorem len_sound {v : Value} {x y : V} {t ty : TypeId} (h : RV Γ v x) (hx : lenA P t x = some y) : ∃ u, (Builtin.len_ #[t] ty #[v]).run P Γ.w = .ok u Γ.w ∧ RV Γ u y := by
  unfold lenA at hx
  split at hx
  · rename_i l hu
    cases hx
    cases h with
    | str s _ hl hs =>
      refine ⟨.int .i64 s.size, by simp [Builtin.len_, run_underlying hu, goInt], ?_⟩
      rw [str_size hl]
      exact RD.int _ _
  · rename_i n _ hu
    cases hx
    exact ⟨_, by simp [Builtin.len_, run_underlying hu, goInt], RD.int _ _⟩
  · rename_i e o off n m z hu
    cases hx
    obtain ⟨c, rfl, _⟩ := h
    exact ⟨_, by simp [Builtin.len_, run_underlying hu, goInt], RD.int _ _⟩
  · rename_i e x' _ hu
    rw [Option.map_eq_some_iff] at hx
    obtain ⟨xs, hxs, rfl⟩ := hx
    have hd := elems_sound h hxs
    cases hd with
    | sl A m c sz _ vs hm hc hmx hA hsz hcell hdd =>
      subst hm
      exact ⟨_, by simp [Builtin.len_, run_underlying hu, goInt], RD.int _ _⟩
  · cases hx
end
end Go.Proofs.YtckonoejmjblfaaGreat.Ev
