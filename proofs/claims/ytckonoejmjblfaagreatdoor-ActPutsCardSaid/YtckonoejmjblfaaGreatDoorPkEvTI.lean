/- Slices in objects that calls share: made, copied, cleared, appended to. -/
import Derived.Test.YtckonoejmjblfaaGreatDoorPkEvZ
import Derived.Laws.MakeOwn
import Derived.Laws.RangeString
import Derived.TacticsIn
import Derived.OrdersIn
import Derived.LoopNIn
import Derived.RangeFuncLeaves
import Derived.RangeFuncRecord
import Derived.RangeFuncNested
set_option linter.unusedVariables false
set_option linter.unusedSimpArgs false
namespace Go.Proofs.YtckonoejmjblfaaGreatDoor.Ev
open Go Go.RowKit

section
variable {ql : Prop} {P : Program} {Γ : Ctx}

theorem count_sound {v : Value} {x : W} {k : Nat} (h : RW Γ v x) (hk : W.count x = some k) : ∃ A c, v = .slice A k c ∧ k ≤ c ∧ c ≤ maxLen ∧ (A = none → c = 0) := by
  unfold W.count at hk
  split at hk
  · cases hk
    obtain ⟨c, rfl, h1, h2, h3, _⟩ := h
    exact ⟨_, c, rfl, by omega, h3, fun e => by cases e⟩
  · rw [Option.map_eq_some_iff] at hk
    obtain ⟨xs, hxs, rfl⟩ := hk
    have hd := elems_sound h hxs
    cases hd with
    | sl A m c _ _ _ hm hc hmx hA => subst hm; exact ⟨_, _, rfl, hc, hmx, hA⟩
theorem chunk_flat {α : Type} (z : Nat) : ∀ (n : Nat) (cs : List α), cs.length = n * z → (chunk z n cs).flatten = cs
  | 0, cs, h => by
    rw [Nat.zero_mul] at h
    rw [List.length_eq_zero_iff.1 h]
    rfl
  | n + 1, cs, h => by
    rw [chunk, List.flatten_cons, chunk_flat z n (cs.drop z) (by rw [List.length_drop, h, Nat.add_mul]; omega), List.take_append_drop]
theorem chunk_all {α : Type} (z : Nat) : ∀ (n : Nat) (cs : List α), cs.length = n * z → ∀ x ∈ chunk z n cs, x.length = z
  | 0, cs, h, x, hx => by simp [chunk] at hx
  | n + 1, cs, h, x, hx => by
    rw [Nat.add_mul] at h
    rw [chunk, List.mem_cons] at hx
    rcases hx with rfl | hx
    · rw [List.length_take]; omega
    · exact chunk_all z n (cs.drop z) (by rw [List.length_drop]; omega) x hx
theorem row_sound {B : Nat} {s : St} {a : Act} (hI : Inv Γ B s a) {v : Value} {x : W} {z k : Nat} {row : List W} (h : RW Γ v x) (hk : W.count x = some k) (hr : s.rowOf z x = some row) :
    ∃ A c, v = .slice A k c ∧ ∃ us : List Value, us.length = k * z ∧ All2 (RW Γ) us row ∧ (∀ u ∈ us, u.oneCell' = true) ∧ (∀ ad, A = some ad → ∀ (j : Nat) u, us[j]? = some u → Γ.w.cell? (ad.add j) = some u) ∧ (A = none → k = 0) := by
  unfold St.rowOf at hr
  split at hr
  · rename_i o off n m z'
    split at hr
    · rename_i hz
      subst hz
      simp only [W.count, Option.some.injEq] at hk
      subst hk
      obtain ⟨c, rfl, h1, h2, h3, h4, h5⟩ := h
      obtain ⟨ad, had, vs, e1, e2, e3, e4⟩ := cellsAt_sound hI (v := ptr (Γ.glo o) off) (x := .glo o off) ⟨rfl, h5⟩ hr
      simp only [ptr, Value.pointer.injEq, Option.some.injEq] at had
      subst had
      exact ⟨_, _, rfl, vs, e1, e2, e3, fun ad e j u hj => by cases e; exact e4 j u hj, fun e => by cases e⟩
    · cases hr
  · rename_i cs n z'
    split at hr
    · rename_i hz
      subst hz
      cases hr
      have hkn : n = k := by
        have hc := chunk_len z' n (cs.map orE)
        unfold W.count at hk
        simp only [W.elems, Option.map_some, hc, Option.some.injEq] at hk
        exact hk
      subst hkn
      obtain ⟨⟨hd, A, n', rfl⟩, hcl, hno⟩ := h
      have hcl' : (cs.map orE).length = n * z' := by rw [List.length_map]; exact hcl
      have hfl := chunk_flat z' n (cs.map orE) hcl'
      have hal := chunk_all z' n (cs.map orE) hcl'
      by_cases h0 : 0 < n
      · obtain ⟨ad, rfl, hn', us, e1, e2, e3, e4⟩ := hd.flat hal (by rw [chunk_len]; exact h0)
        rw [chunk_len] at hn'
        subst hn'
        rw [hfl] at e3
        refine ⟨_, _, rfl, us, e1, ⟨by rw [List.length_map, hcl]; exact e1, fun j u x hu hx => ?_⟩, e4, fun ad' e j u hj => by cases e; exact (e2 j u hj).1, fun e => by cases e⟩
        rw [List.getElem?_map, Option.map_eq_some_iff] at hx
        obtain ⟨o, ho, rfl⟩ := hx
        have hrd := e3.2 j u (orE o) hu (by rw [List.getElem?_map, ho]; rfl)
        cases o with
        | some d => exact hrd
        | none =>
          obtain ⟨B', k1, k2⟩ := hno ad n' rfl j ho
          have := (e2 j u hu).1
          rw [k2] at this
          cases this
          exact ⟨hrd, _, _, rfl⟩
      · have hn0 : n = 0 := by omega
        subst hn0
        have hn' : n' = 0 := by cases hd with | sl _ _ _ _ _ _ hm => rw [chunk_len] at hm; exact hm.symm
        subst hn'
        have hcs : cs = [] := List.length_eq_zero_iff.1 (by omega)
        subst hcs
        exact ⟨_, _, rfl, [], by simp, All2.nil, by simp, fun _ _ j u h => by simp at h, fun _ => rfl⟩
    · cases hr
  · rw [Option.bind_eq_some_iff] at hr
    obtain ⟨xs, hxs, hr⟩ := hr
    split at hr
    · rename_i hall
      cases hr
      have hkx : xs.length = k := by
        unfold W.count at hk
        split at hk
        · simp [W.elems] at hxs
        · rw [hxs] at hk; simpa using hk
      subst hkx
      have hd := elems_sound h hxs
      obtain ⟨A, m, c, rfl⟩ : ∃ A m c, v = .slice A m c := by cases hd; exact ⟨_, _, _, rfl⟩
      by_cases h0 : 0 < xs.length
      · obtain ⟨ad, rfl, rfl, us, e1, e2, e3, e4⟩ := hd.flat (all_len hall) h0
        exact ⟨_, _, rfl, us, e1, All2.map_right W.d e3, e4, fun ad' e j u hj => by cases e; exact (e2 j u hj).1, fun e => by cases e⟩
      · have hx0 : xs = [] := List.eq_nil_of_length_eq_zero (by omega)
        subst hx0
        cases hd with
        | sl _ _ _ _ _ _ hm => subst hm; exact ⟨_, _, rfl, [], by simp, by simp [All2.nil], by simp, by simp, fun _ => rfl⟩
    · cases hr
theorem row_len {B : Nat} {s : St} {a : Act} (hI : Inv Γ B s a) {v : Value} {x : W} {z k : Nat} {row : List W} (h : RW Γ v x) (hk : W.count x = some k) (hr : s.rowOf z x = some row) : row.length = k * z := by
  obtain ⟨_, _, _, us, e1, e2, _⟩ := row_sound hI h hk hr
  rw [← e2.1, e1]

theorem put_glr {s : St} {dst : Option Nat} {v : V} {g : List (List W)} : ({ s with gl := g } : St).put dst v = { (s.put dst v) with gl := g } := by cases dst <;> rfl

theorem copy_sound {B : Nat} {s s' : St} {a : Act} (hI : Inv Γ B s a) {dst : Option Nat} {t ty : TypeId} {ts : Array TypeId} {v v' : Value} {x y : V} (ht : ts[0]? = some t) (hx : RV Γ v x) (hy : RV Γ v' y) (h : copyA P s dst t x y = some s') :
    ∃ Γ' u, (Builtin.copy_ ts ty #[v, v']).run P Γ.w = .ok u Γ'.w ∧ Step ql B Γ Γ' ∧ Inv Γ' B s' (a.put dst u) := by
  unfold copyA at h
  split at h
  · rename_i e x y hu
    simp only [Option.bind_eq_some_iff] at h
    obtain ⟨z, hz, k, hk, row, hrow, h⟩ := h
    obtain ⟨A, c, rfl, us, e1, e2, e3, e4, e5⟩ := row_sound hI hy hk hrow
    have first : ∀ m, m ≤ k → (Builtin.firstCells z m (.slice A k c)).run P Γ.w = .ok (us.take (m * z)).toArray Γ.w := by
      intro m hm
      cases A with
      | none =>
        have : us = [] := List.eq_nil_of_length_eq_zero (by rw [e1, e5 rfl, Nat.zero_mul])
        subst this
        simp [Builtin.firstCells]
      | some ad =>
        refine run_firstCells_some _ _ _ _ _ _ _ (by rw [List.length_take, e1, Nat.min_eq_left (Nat.mul_le_mul_right _ hm)]) fun j u hj => ?_
        rw [List.getElem?_take] at hj
        split at hj
        · exact e4 ad rfl j u hj
        · cases hj
    split at h
    · rename_i o off n m z'
      split at h
      · rename_i hzo
        obtain ⟨rfl, hro⟩ := hzo
        simp only [Option.bind_eq_some_iff, Option.map_eq_some_iff] at h
        obtain ⟨cs, hcs, new, hnew, cs', hp, rfl⟩ := h
        obtain ⟨c2, rfl, _⟩ := hx
        have hsub : All2 (RW Γ) (us.take (min k n * z')) (row.take (min k n * z')) := e2.take _
        obtain ⟨Γ', hr, k1, k2⟩ := writeGlo (ql := ql) (P := P) hI hcs (expos_sound hsub hnew) (fun u hu => e3 u (List.mem_of_mem_take hu)) (expos_free hnew) hp
        have hf := first (min k n) (Nat.min_le_left _ _)
        generalize hq : min k n = q at hf hr hsub hnew ⊢
        have hq' : Nat.min k n = q := hq
        refine ⟨Γ', .int .i64 (q : Nat), ?_, k1, ?_⟩
        · simp [Builtin.copy_, ht, Builtin.lenOf, run_szOf hz, run_underlying hu, hq, hq', hf, hr, goInt]
        · have := k2.put dst (v := .int .i64 (q : Nat)) (x := V.int .i64 (q : Nat)) (RD.int _ _)
          rw [put_glr] at this
          exact this
      · cases h
    · simp only [Option.bind_eq_some_iff] at h
      obtain ⟨xs, hxs, h⟩ := h
      split at h
      · rename_i h0
        cases h
        have hd := elems_sound hx hxs
        cases hd with
        | sl A' m' c' _ _ _ hm =>
          have hm0 : m' = 0 := by omega
          subst hm0
          refine ⟨Γ, goInt 0, ?_, Step.refl _ _, hI.put dst (RD.int _ _)⟩
          have := first 0 (Nat.zero_le _)
          simp at this
          cases A' <;> simp [Builtin.copy_, ht, run_underlying hu, Builtin.lenOf, run_szOf hz, this, storeCells]
      · cases h
  · cases h

theorem zero_row {z n : Nat} {z0 : Value} {zc : C} {zs : List W} (hz0 : constC z0 = some zc) (hzl : zc.cells.length = z) (hzp : 0 < z) (he : expos zc.cells = some zs) (hzn : zs.length = z) :
    All2 (RW Γ) ((Array.range (n * z)).map fun i => z0.cells[i % z0.cells.size]!).toList (repeatW n zs) ∧ (∀ u ∈ ((Array.range (n * z)).map fun i => z0.cells[i % z0.cells.size]!).toList, u.oneCell' = true) ∧ ∀ c ∈ repeatW n zs, W.free c = true := by
  obtain ⟨hc, hk⟩ := constC_sound (Γ := Γ) hz0
  obtain ⟨hcells, hone⟩ := hc.cells hk
  have hzs : z0.cells.size = z := by have := hcells.1; simp at this; omega
  have hex := expos_sound hcells he
  refine ⟨⟨by simp [repeatW_len, hzn], fun i u b hu hb => ?_⟩, fun u hu => ?_, fun c hc => ?_⟩
  · have hi : i < n * z := by have := (List.getElem?_eq_some_iff.1 hu).1; simpa using this
    rw [repeatW_get zs (by omega) n i (by rw [hzn]; exact hi), hzn] at hb
    have hmod : i % z < z := Nat.mod_lt _ hzp
    simp only [Array.toList_map, Array.toList_range, List.getElem?_map, List.getElem?_range hi, Option.map_some, Option.some.injEq] at hu
    subst hu
    refine hex.2 (i % z) _ b ?_ hb
    rw [hzs, Array.getElem?_toList, getElem!_pos z0.cells (i % z) (by omega), Array.getElem?_eq_getElem (by omega)]
  · simp only [Array.toList_map, Array.toList_range, List.mem_map, List.mem_range] at hu
    obtain ⟨i, hi, rfl⟩ := hu
    have hmod : i % z < z := Nat.mod_lt _ hzp
    rw [hzs, getElem!_pos z0.cells (i % z) (by omega)]
    exact hone _ (by simp)
  · obtain ⟨i, hi⟩ := List.getElem?_of_mem hc
    have hlt := (List.getElem?_eq_some_iff.1 hi).1
    rw [repeatW_len] at hlt
    rw [repeatW_get zs (by omega) n i hlt] at hi
    exact expos_free he c (List.mem_of_getElem? hi)
theorem expos_len : ∀ {xs ys : List W}, expos xs = some ys → ys.length = xs.length
  | [], ys, h => by simp only [expos, Option.some.injEq] at h; subst h; rfl
  | x :: r, ys, h => by
    simp only [expos, Option.bind_eq_some_iff, Option.map_eq_some_iff] at h
    obtain ⟨a, ha, b, hb, rfl⟩ := h
    simp [expos_len hb]

theorem clear_sound {B : Nat} {s s' : St} {a : Act} (hI : Inv Γ B s a) {dst : Option Nat} {t ty : TypeId} {v : Value} {x : V} (hx : RV Γ v x) (h : clearA P s dst t x = some s') :
    ∃ Γ' u, (Builtin.clear_ #[t] ty #[v]).run P Γ.w = .ok u Γ'.w ∧ Step ql B Γ Γ' ∧ Inv Γ' B s' (a.put dst u) := by
  unfold clearA at h
  split at h
  · rename_i e x hu
    simp only [Option.bind_eq_some_iff] at h
    obtain ⟨z, hz, zc, hzc, zs, hzs, h⟩ := h
    split at h
    · rename_i hzl
      obtain ⟨z0, hz0, hrun⟩ := run_zeroC hzc
      split at h
      · rename_i o off n m z'
        split at h
        · rename_i hzo
          obtain ⟨rfl, hro⟩ := hzo
          simp only [Option.bind_eq_some_iff, Option.map_eq_some_iff] at h
          obtain ⟨cs, hcs, cs', hp, rfl⟩ := h
          obtain ⟨c2, rfl, _⟩ := hx
          have hput : ∀ {Γ' : Ctx}, Inv Γ' B { s with gl := s.gl.set o cs' } a → Inv Γ' B { (s.put dst V.no) with gl := s.gl.set o cs' } (a.put dst (.tuple #[])) := by
            intro Γ' k2
            have := k2.put dst (v := .tuple #[]) (x := V.no) ⟨#[], rfl, All2.nil⟩
            rw [put_glr] at this
            exact this
          by_cases hz00 : z' = 0
          · subst hz00
            have hzs0 : zs = [] := List.eq_nil_of_length_eq_zero hzl
            subst hzs0
            have hrep : repeatW n [] = [] := List.eq_nil_of_length_eq_zero (by rw [repeatW_len]; rfl)
            rw [hrep] at hp
            obtain ⟨Γ', hr, k1, k2⟩ := writeGlo (ql := ql) (P := P) hI hcs (us := []) All2.nil (by simp) (by simp) hp
            have hcc := (constC_sound (Γ := Γ) hz0)
            have hzz : z0.cells.size = 0 := by have h1 := (hcc.1.cells hcc.2).1.1; have h2 := expos_len hzs; simp at h1 h2; omega
            refine ⟨Γ', .tuple #[], ?_, k1, hput k2⟩
            have hzc0 : z0.cells = #[] := Array.eq_empty_of_size_eq_zero hzz
            cases n with
            | zero => 
              simp only [storeCells, Sem.run_pure, Result.ok.injEq, true_and] at hr
              simp [Builtin.clear_, run_underlying hu, ← hr]
            | succ n => simp [Builtin.clear_, run_underlying hu, hrun, Builtin.zeroCells, hzc0, hr, Array.range_zero']
          obtain ⟨q1, q2, q3⟩ := zero_row (Γ := Γ) (n := n) hz0 (by rw [← expos_len hzs]; exact hzl) (Nat.pos_of_ne_zero hz00) hzs hzl
          obtain ⟨Γ', hr, k1, k2⟩ := writeGlo (ql := ql) (P := P) hI hcs q1 q2 q3 hp
          refine ⟨Γ', .tuple #[], ?_, k1, hput k2⟩
          have hcc := (constC_sound (Γ := Γ) hz0)
          have hzz : z0.cells.size = z' := by have h1 := (hcc.1.cells hcc.2).1.1; have h2 := expos_len hzs; simp at h1 h2; omega
          have hzc : Builtin.zeroCells z0.cells n = (Array.range (n * z')).map fun i => z0.cells[i % z0.cells.size]! := by simp only [Builtin.zeroCells, hzz]
          cases n with
          | zero =>
            simp at hr
            simp only [storeCells, Sem.run_pure, Result.ok.injEq, true_and] at hr
            simp [Builtin.clear_, run_underlying hu, ← hr]
          | succ n =>
            simp only [Builtin.clear_, List.getElem?_toArray, List.getElem?_cons_zero, Sem.run_bind, run_underlying hu, Result.andThen_ok, hrun, hzc, hr, Sem.run_pure]
        · cases h
      · simp only [Option.bind_eq_some_iff] at h
        obtain ⟨xs, hxs, h⟩ := h
        split at h
        · rename_i h0
          cases h
          have hd := elems_sound hx hxs
          cases hd with
          | sl A' m' c' _ _ _ hm =>
            have hm0 : m' = 0 := by omega
            subst hm0
            refine ⟨Γ, .tuple #[], ?_, Step.refl _ _, hI.put dst (x := V.no) ⟨#[], rfl, All2.nil⟩⟩
            cases A' <;> simp [Builtin.clear_, run_underlying hu]
        · cases h
    · cases h
  · cases h

theorem buildG_sound {B : Nat} {s s' : St} {a : Act} (hI : Inv Γ B s a) {d : Nat} {t : TypeId} {len : Nat} {l : Array (Nat × Operand)} (hx : buildG P s d t len l.toList = some s') :
    ∃ Γ' u, (Instr.buildSlice t len (l.map fun (i, x) => (i, a.eval x))).run P Γ.w = .ok u Γ'.w ∧ Step ql B Γ Γ' ∧ Inv Γ' B s' (a.put (some d) u) := by
  unfold buildG at hx
  split at hx
  · rename_i e hu
    simp only [Option.bind_eq_some_iff] at hx
    obtain ⟨n, hn, z, hz, ps, hps, hx⟩ := hx
    split at hx
    · rename_i hcond
      obtain ⟨hzl, hn0, hl0, hbig⟩ := hcond
      simp only [Option.bind_eq_some_iff, Option.map_eq_some_iff] at hx
      obtain ⟨ws, hws, cs, hcs, rfl⟩ := hx
      obtain ⟨z0, hz0, hrun⟩ := run_zeroC hz
      obtain ⟨hc, hk⟩ := constC_sound (Γ := Γ) hz0
      obtain ⟨hcells, hone⟩ := hc.cells hk
      have hzs : z0.cells.size = n := by have := hcells.1; simp at this; omega
      have hp := parts_sound hI _ _ hps
      have hl : (l.map fun (p : Nat × Operand) => (p.1, a.eval p.2)).toList = l.toList.map fun (p : Nat × Operand) => (p.1, a.eval p.2) := by simp
      rw [← hl] at hp
      have hinit : All2 (RW Γ) (((Array.range (len * n)).map fun i => z0.cells[i % z0.cells.size]!).toList) (repeatW len z.cells) := by
        refine ⟨by simp [repeatW_len, hzl], fun i u b hu hb => ?_⟩
        have hi : i < len * n := by have := (List.getElem?_eq_some_iff.1 hu).1; simpa using this
        rw [repeatW_get z.cells (by omega) len i (by rw [hzl]; exact hi), hzl] at hb
        have hmod : i % n < n := Nat.mod_lt _ hn0
        simp only [Array.toList_map, Array.toList_range, List.getElem?_map, List.getElem?_range hi, Option.map_some, Option.some.injEq] at hu
        subst hu
        refine hcells.2 (i % n) _ b ?_ hb
        rw [hzs, Array.getElem?_toList, getElem!_pos z0.cells (i % n) (by omega), Array.getElem?_eq_getElem (by omega)]
      have hone' : ∀ u ∈ ((Array.range (len * n)).map fun i => z0.cells[i % z0.cells.size]!).toList, u.oneCell' = true := by
        intro u hu
        simp only [Array.toList_map, Array.toList_range, List.mem_map, List.mem_range] at hu
        obtain ⟨i, hi, rfl⟩ := hu
        have hmod : i % n < n := Nat.mod_lt _ hn0
        rw [hzs, getElem!_pos z0.cells (i % n) (by omega)]
        exact hone _ (by simp)
      obtain ⟨cells', hf, h1, h2⟩ := fill_sound (fun i => some (i * n, n)) ps _ _ _ _ hinit hone' hp hws
      have hcl := expos_sound h1 hcs
      have hwl : ws.length = len * n := by
        have : ∀ (ps : List (Nat × C)) (ws r : List W), fillW (fun i => some (i * n, n)) ws ps = some r → r.length = ws.length := by
          intro ps
          induction ps with
          | nil => intro ws r h; simp only [fillW, Option.some.injEq] at h; rw [h]
          | cons p ps ih =>
            intro ws r h
            obtain ⟨i, c⟩ := p
            simp only [fillW, Option.bind_eq_some_iff] at h
            obtain ⟨q, hq, h⟩ := h
            split at h
            · rw [Option.bind_eq_some_iff] at h
              obtain ⟨ws', hp', h⟩ := h
              rw [ih _ _ h, (paste_spec hp').2.2]
            · cases h
        have a2 := this _ _ _ hws
        rw [repeatW_len, hzl] at a2
        exact a2
      have hcsl : cs.length = len * n := by rw [expos_len hcs, hwl]
      have hcs' : cells'.size = len * n := by have a1 := h1.1; simp at a1; omega
      have hlen : len ≤ len * n := Nat.le_mul_of_pos_right _ hn0
      have hpos : ¬ len * n = 0 := by omega
      obtain ⟨k1, k2⟩ := hI.newGlo (ql := ql) (w' := { Γ.w with heap := Γ.w.heap.push (.cells cells' e (0, 0)) }) rfl rfl rfl (by simp) (fun g hg => by rw [Array.getElem?_push, if_neg (by omega)])
        cells' e (by simp) cs (by rw [List.take_of_length_le (by simp; omega)]; exact hcl) h2 (expos_free hcs)
      refine ⟨_, .slice (some ⟨Γ.w.heap.size, 0, none⟩) len len, ?_, k1, ?_⟩
      · simp only [Instr.buildSlice, Sem.run_bind, run_underlying hu, Result.andThen_ok, run_szOf hn]
        rw [if_neg (by omega)]
        simp only [hpos, if_false, Sem.run_bind, Sem.run_map, hrun, Result.andThen_ok, Sem.run_pure, hf, newRow, run_newObj]
        rfl
      · have := k2.put (some d) (v := .slice (some ⟨Γ.w.heap.size, 0, none⟩) len len) (x := .c (.w (.gsl s.gl.length 0 len len n))) ⟨len, by simp [Ctx.glo, Ctx.newGlo, hI.ng], Nat.le_refl _, Nat.le_refl _, by simp only [maxLen]; omega, by simp [Ctx.gsz, Ctx.newGlo, hI.ng, hcs'], by simp [Ctx.newGlo, hI.ng]⟩
        rw [put_glr] at this
        exact this
    · cases hx
  · cases hx
theorem make_sound {B : Nat} {s s' : St} {a : Act} (hI : Inv Γ B s a) {dst : Option Nat} {t : TypeId} {kl kc : IntKind} {l c : Int} (h : makeA P s dst t l c = some s') :
    ∃ Γ' u, (Instr.makeSlice t (.int kl l) (.int kc c)).run P Γ.w = .ok u Γ'.w ∧ Step ql B Γ Γ' ∧ Inv Γ' B s' (a.put dst u) := by
  unfold makeA at h
  split at h
  · rename_i e hu
    simp only [Option.bind_eq_some_iff] at h
    obtain ⟨z, hz, nb, hnb, zc, hzc, h⟩ := h
    split at h
    · rename_i hcond
      obtain ⟨hzl, hzp, h0, hlc, hby, hmx⟩ := hcond
      obtain ⟨i, z0, hi, hzero, hcz⟩ := zeroC_spec hzc
      have hnb' : i.bytes = nb := by unfold byOf at hnb; rw [hi] at hnb; simpa using hnb
      have hsz : i.size = z := by unfold szOf at hz; rw [hi] at hz; simpa using hz
      have hb' : (i.bytes : Int) * c ≤ 281474976710656 := by
        have : ((c.toNat * nb : Nat) : Int) ≤ 281474976710656 := by omega
        rw [Int.natCast_mul, Int.toNat_of_nonneg (by omega), Int.mul_comm, ← hnb'] at this
        exact this
      have hr := run_make (P := P) Γ.w t e i z0 hu hi hzero kl kc l c h0 hlc hb' (by simp only [maxLen] at hmx; omega)
      split at h
      · rename_i hc0
        subst hc0
        cases h
        have hl0 : l = 0 := by omega
        subst hl0
        have hg := grow_fresh (Γ := Γ) (w' := Γ.w.alloc (.cells (madeCells z0.cells ((0 : Int).toNat * i.size)) e)) rfl rfl rfl (by show (Γ.w.heap.push _).size = _; simp) (fun g hg => Below.heap_alloc _ _ g hg)
        refine ⟨_, _, hr, hI.step_of_grow hg, (hI.grow hg).put dst ?_⟩
        refine ⟨?_, _, _, rfl⟩
        exact .sl _ _ _ 0 [] (fun _ _ => undef) rfl (by simp) (by simp [maxLen]) (fun h => by cases h) (by simp) (fun _ _ i j hi _ => by simp at hi) (by simp)
      · rename_i hc0
        rw [Option.map_eq_some_iff] at h
        obtain ⟨zs, hzs, rfl⟩ := h
        obtain ⟨q1, q2, q3⟩ := zero_row (Γ := Γ) (n := c.toNat) hcz hzl hzp hzs (by rw [expos_len hzs]; exact hzl)
        have hm : madeCells z0.cells (c.toNat * i.size) = (Array.range (c.toNat * z)).map fun i => z0.cells[i % z0.cells.size]! := by rw [hsz]; rfl
        have hms : (madeCells z0.cells (c.toNat * i.size)).size = c.toNat * z := by rw [size_madeCells, hsz]
        have hzsl : zs.length = z := by rw [expos_len hzs]; exact hzl
        obtain ⟨k1, k2⟩ := hI.newGlo (ql := ql) (w' := Γ.w.alloc (.cells (madeCells z0.cells (c.toNat * i.size)) e)) rfl rfl rfl (by show (Γ.w.heap.push _).size = _; simp) (fun g hg => Below.heap_alloc _ _ g hg)
          (madeCells z0.cells (c.toNat * i.size)) e (alloc_new _ _) (repeatW c.toNat zs) (by rw [hm, ← q1.1, List.take_length]; exact q1) (by rw [hm]; exact q2) q3
        refine ⟨_, _, hr, k1, ?_⟩
        have := k2.put dst (v := .slice (some ⟨Γ.w.heap.size, 0, none⟩) l.toNat c.toNat) (x := .c (.w (.gsl s.gl.length 0 l.toNat c.toNat z))) ⟨c.toNat, by simp [Ctx.glo, Ctx.newGlo, hI.ng], by omega, Nat.le_refl _, hmx, by simp [Ctx.gsz, Ctx.newGlo, hI.ng, hms], by simp [Ctx.newGlo, hI.ng]⟩
        rw [put_glr] at this
        exact this
    · cases h
  · cases h

theorem appendZ_sound {B : Nat} {s s' : St} {a : Act} (hI : Inv Γ B s a) {d : Nat} {t ty : TypeId} {v v' : Value} {x y : W} (hx : RW Γ v x) (hy : RW Γ v' y) (hy0 : W.count y = some 0) (h : appendZ P s d t x y = some s') :
    ∃ u, (Builtin.append_ #[t, t] ty #[v, v']).run P Γ.w = .ok u Γ.w ∧ Inv Γ B s' (a.put (some d) u) := by
  unfold appendZ at h
  split at h
  · rename_i e hu
    simp only [Option.bind_eq_some_iff] at h
    obtain ⟨z, hz, n, hn, h⟩ := h
    cases h
    obtain ⟨A, c, rfl, hc, _⟩ := count_sound hx hn
    obtain ⟨A', c', rfl, _⟩ := count_sound hy hy0
    refine ⟨.slice A n c, ?_, hI.put (some d) hx⟩
    have hf : (Builtin.firstCells z 0 (.slice A' 0 c')).run P Γ.w = .ok #[] Γ.w := by
      cases A' with
      | none => rfl
      | some ad => exact run_firstCells_some _ _ _ _ _ _ [] (by simp) (by simp)
    cases A <;> simp [Builtin.append_, run_underlying hu, Builtin.lenOf, run_szOf hz, hc, hf, storeCells]
  · cases h

/-- The world behind an append that lays a new row. -/
theorem appendG_new {B : Nat} {s : St} {a : Act} (hI : Inv Γ B s a) {dst : Option Nat} {z N old : Nat} {e : TypeId} {z0 : Value} (hz0 : z0.cells.size = z) (hone0 : ∀ u ∈ z0.cells.toList, u.oneCell' = true) (hNm : N ≤ maxLen) {us : List Value} {ws : List W} (hl : us.length = N * z) (hus : All2 (RW Γ) us ws) (h1 : ∀ u ∈ us, u.oneCell' = true) (hf : ∀ c ∈ ws, W.free c = true) :
    ∃ Γ', Γ'.w = Γ.w.drew.alloc (.cells (us.toArray ++ Builtin.zeroCells z0.cells (grownCap Γ.w N old e - N)) e) ∧ Step ql B Γ Γ' ∧ Inv Γ' B { (s.put dst (.c (.w (.gsl s.gl.length 0 N N z)))) with gl := s.gl ++ [ws] } (a.put dst (.slice (some ⟨Γ.w.heap.size, 0, none⟩) N (grownCap Γ.w N old e))) := by
  have hge := grownCap_ge Γ.w N old e
  have hsz : (us.toArray ++ Builtin.zeroCells z0.cells (grownCap Γ.w N old e - N)).size = grownCap Γ.w N old e * z := by
    rw [Array.size_append, size_zeroCells, hz0, List.size_toArray, hl, ← Nat.add_mul]
    congr 1
    omega
  have htk : (us.toArray ++ Builtin.zeroCells z0.cells (grownCap Γ.w N old e - N)).toList.take ws.length = us := by
    rw [Array.toList_append, ← hus.1]
    exact List.take_left
  obtain ⟨k1, k2⟩ := hI.newGlo (ql := ql) (hdr := Nat.le_succ _) (w' := Γ.w.drew.alloc (.cells (us.toArray ++ Builtin.zeroCells z0.cells (grownCap Γ.w N old e - N)) e)) rfl rfl rfl (by show (Γ.w.heap.push _).size = _; simp) (fun g hg => Below.heap_alloc _ _ g hg)
    _ e (alloc_new _ _) ws (by rw [htk]; exact hus) (fun u hu => by
      rw [Array.toList_append, List.mem_append] at hu
      rcases hu with hu | hu
      · exact h1 u hu
      · simp only [Builtin.zeroCells, Array.toList_map, Array.toList_range, List.mem_map, List.mem_range] at hu
        obtain ⟨i, hi, rfl⟩ := hu
        have hp : 0 < z0.cells.size := Nat.pos_of_ne_zero fun h0 => by rw [h0] at hi; simp at hi
        have hmod : i % z0.cells.size < z0.cells.size := Nat.mod_lt _ hp
        rw [getElem!_pos z0.cells _ hmod]
        exact hone0 _ (by simp)) hf
  refine ⟨_, rfl, k1, ?_⟩
  have := k2.put dst (v := .slice (some ⟨Γ.w.heap.size, 0, none⟩) N (grownCap Γ.w N old e)) (x := .c (.w (.gsl s.gl.length 0 N N z))) ⟨_, by simp [Ctx.glo, Ctx.newGlo, hI.ng], Nat.le_refl _, hge, grownCap_le_maxLen _ _ _ _ hNm, by simp only [Ctx.gsz, Ctx.newGlo, hI.ng, if_true, Nat.zero_add]; rw [hsz]; exact Nat.le_refl _, by simp [Ctx.newGlo, hI.ng]⟩
  rw [put_glr] at this
  exact this

theorem appendG_sound {B : Nat} {s s' : St} {a : Act} (hI : Inv Γ B s a) {dst : Option Nat} {t ty : TypeId} {v v' : Value} {x y : W} (hx : RW Γ v x) (hy : RW Γ v' y) (h : appendG P s dst t x y = some s') :
    ∃ Γ' u, (Builtin.append_ #[t, t] ty #[v, v']).run P Γ.w = .ok u Γ'.w ∧ Step ql B Γ Γ' ∧ Inv Γ' B s' (a.put dst u) := by
  unfold appendG at h
  split at h
  · rename_i e hu
    simp only [Option.bind_eq_some_iff] at h
    obtain ⟨z, hz, nb, hnb, zc, hzc, n, hn, k, hk, row, hrow, new, hnew, h⟩ := h
    split at h
    · rename_i hcond
      obtain ⟨hzl, hzp, hk0, hby, hmx⟩ := hcond
      obtain ⟨i, z0, hi, hzero, hcz⟩ := zeroC_spec hzc
      have hnb' : i.bytes = nb := by unfold byOf at hnb; rw [hi] at hnb; simpa using hnb
      have hsz : i.size = z := by unfold szOf at hz; rw [hi] at hz; simpa using hz
      obtain ⟨hcc, hck⟩ := constC_sound (Γ := Γ) hcz
      obtain ⟨hc1, hc2⟩ := hcc.cells hck
      have hz0s : z0.cells.size = z := by have := hc1.1; simp at this; omega
      obtain ⟨A', c', rfl, news, e1, e2, e3, e4, e5⟩ := row_sound hI hy hk hrow
      obtain ⟨a', rfl⟩ : ∃ a', A' = some a' := by
        cases A' with
        | none => have := e5 rfl; omega
        | some a' => exact ⟨a', rfl⟩
      have hnews : ∀ (j : Nat) u, news[j]? = some u → Γ.w.cell? (a'.add j) = some u := e4 a' rfl
      have hnl : news.length = k * i.size := by rw [hsz]; exact e1
      have hnew' := lodges_sound e2 hnew
      have hfn := lodges_free hnew
      have h63 : ((n + k : Nat) : Int) ≤ 9223372036854775807 := by simp only [maxLen] at hmx; omega
      have hby' : (n + k) * i.bytes ≤ 140737488355328 := by rw [hnb']; exact hby
      split at h
      · rename_i xs
        split at h
        · rename_i hall
          cases h
          have hlx := all_len hall
          obtain ⟨hd, A, m, rfl⟩ := hx
          have hnx : xs.length = n := by simpa [W.count, W.elems] using hn
          subst hnx
          have hmn : m = xs.length := by cases hd with | sl _ _ _ _ _ _ hm => exact hm.symm
          subst hmn
          by_cases hx0 : xs = []
          · subst hx0
            have key := appendG_new (ql := ql) (B := B) (dst := dst) (e := e) (old := 0) hI hz0s hc2 (N := k) (by simpa using hmx) (us := news) (ws := new) e1 hnew' e3 hfn
            obtain ⟨Γ', hw, q1, q2⟩ := key
            cases A with
            | none =>
              have hr := run_append_nil (P := P) Γ.w t ty e i z0 hu hi hzero a' k c' news hnl hnews hk0 (by simpa using h63) (by have := hby'; simp at this; omega)
              exact ⟨Γ', _, by rw [List.length_nil, hr, hw], q1, by simpa using q2⟩
            | some ad =>
              have hr := run_append_grow (P := P) Γ.w t ty e i z0 hu hi hzero ad 0 0 [] (by simp) (by simp) a' k c' news hnl hnews (by omega) (by simpa using h63) (growslice_fits (by omega) (by simpa using hby'))
              simp only [Nat.zero_add] at hr
              refine ⟨Γ', .slice (some ⟨Γ.w.heap.size, 0, none⟩) k (grownCap Γ.w k 0 e), by rw [List.length_nil, hr, hw]; simp, q1, by simpa using q2⟩
          · have hx0 : 0 < xs.length := List.length_pos_iff.2 hx0
            obtain ⟨ad, rfl, _, olds, o1, o2, o3, o4⟩ := hd.flat hlx hx0
            have hr := run_append_grow (P := P) Γ.w t ty e i z0 hu hi hzero ad xs.length xs.length olds (by rw [hsz]; exact o1) (fun j u hj => (o2 j u hj).1) a' k c' news hnl hnews (by omega) h63 (growslice_fits (by omega) hby')
            obtain ⟨Γ', hw, q1, q2⟩ := appendG_new (ql := ql) (B := B) (dst := dst) (e := e) (old := xs.length) hI hz0s hc2 (N := xs.length + k) hmx (us := olds ++ news) (ws := xs.flatten.map W.d ++ new) (by simp [o1, e1, Nat.add_mul]) ((All2.map_right W.d o3).append hnew')
              (fun u hu => by rcases List.mem_append.1 hu with hu | hu; exact o4 u hu; exact e3 u hu) (fun c hc => by
                rcases List.mem_append.1 hc with hc | hc
                · rw [List.mem_map] at hc; obtain ⟨q, _, rfl⟩ := hc; rfl
                · exact hfn c hc)
            exact ⟨Γ', _, by rw [hr, hw]; simp, q1, q2⟩
        · cases h
      · rename_i o off _ m z'
        split at h
        · rename_i hzo
          obtain ⟨rfl, hro⟩ := hzo
          rw [Option.bind_eq_some_iff] at h
          obtain ⟨cs, hcs, h⟩ := h
          simp only [W.count, Option.some.injEq] at hn
          subst hn
          obtain ⟨c, rfl, hnm, hmc, hcm, hgz, ho⟩ := hx
          rename_i n
          split at h
          · rename_i hroom
            rw [Option.map_eq_some_iff] at h
            obtain ⟨cs', hp, rfl⟩ := h
            obtain ⟨Γ', hr, q1, q2⟩ := writeGlo (ql := ql) (P := P) hI hcs hnew' e3 hfn hp
            refine ⟨Γ', .slice (some ⟨Γ.glo o, off, none⟩) (n + k) c, ?_, q1, ?_⟩
            · have hf := run_firstCells_some (P := P) Γ.w i.size k a' k c' news hnl hnews
              have hroom' : n + k ≤ c := by omega
              rw [hsz] at hf
              simp [Builtin.append_, run_underlying hu, Builtin.lenOf, run_szOf hz, hroom', hf, add_plain, hr]
            · have := q2.put dst (v := .slice (some ⟨Γ.glo o, off, none⟩) (n + k) c) (x := .c (.w (.gsl o off (n + k) m z'))) ⟨c, by rw [show Γ'.glo o = Γ.glo o from congrArg Prod.fst (q1.glb o ho)], hroom, hmc, hcm, by rw [Ctx.gsz, q1.glb o ho]; exact hgz, Nat.lt_of_lt_of_le ho q1.ng⟩
              rw [put_glr] at this
              exact this
          · split at h
            · rename_i hroom hc2
              obtain ⟨rfl, hcl, hnz⟩ := hc2
              cases h
              have hce : cs ≠ [] := List.length_pos_iff.1 hcl
              obtain ⟨old, ty0, g1, g3, g4, g5, g6, g7⟩ := hI.globs o cs hcs hce
              have hle : cs.length ≤ old.size := by have := g3.1; simp at this; omega
              have holds : All2 (RW Γ) (old.toList.take (n * z')) (cs.take (n * z')) := by
                have := g3.take (n * z')
                rwa [List.take_take, Nat.min_eq_left hnz] at this
              have hol : (old.toList.take (n * z')).length = n * z' := by simp; omega
              have hocell : ∀ (j : Nat) u, (old.toList.take (n * z'))[j]? = some u → Γ.w.cell? ((⟨Γ.glo o, 0, none⟩ : Addr).add j) = some u := by
                intro j u hj
                rw [add_plain, Nat.zero_add, cell_of_heap g1]
                rw [List.getElem?_take] at hj
                split at hj
                · simpa using hj
                · cases hj
              have hfree2 : ∀ c ∈ cs.take (n * z') ++ new, W.free c = true := fun c hc => by
                rcases List.mem_append.1 hc with hc | hc
                · exact g6 c (List.mem_of_mem_take hc)
                · exact hfn c hc
              by_cases hin : n + k ≤ c
              · -- in place
                have hfit : n * z' + news.length ≤ old.size := by
                  rw [e1, ← Nat.add_mul, g7]
                  have : (n + k) * z' ≤ c * z' := Nat.mul_le_mul_right _ hin
                  omega
                have hst := run_storeCells_at P (Γ.glo o) (n * z') ty0 news 0 old Γ.w g1 (by simpa using hfit) e3
                simp only [Nat.add_zero] at hst
                obtain ⟨q1, q2⟩ := hI.regrow (ql := ql) hcs hce g1 (new := (old.toList.take (n * z') ++ news ++ old.toList.drop (n * z' + news.length)).toArray) (cs' := cs.take (n * z') ++ new) (by simp; omega) (by
                    have hl2 : (cs.take (n * z') ++ new).length = (old.toList.take (n * z') ++ news).length := by
                      rw [List.length_append, List.length_append, ← holds.1, ← hnew'.1]
                    rw [hl2]
                    show All2 (RW Γ) (List.take _ (old.toList.take (n * z') ++ news ++ old.toList.drop (n * z' + news.length))) _
                    rw [List.take_left']
                    · exact holds.append hnew'
                    · rfl)
                  (fun u hu => by
                    simp only [List.mem_append] at hu
                    rcases hu with (hu | hu) | hu
                    · exact g5 u (List.mem_of_mem_take hu)
                    · exact e3 u hu
                    · exact g5 u (List.mem_of_mem_drop hu)) hfree2
                refine ⟨_, .slice (some ⟨Γ.glo o, 0, none⟩) (n + k) c, ?_, q1, ?_⟩
                · have hf := run_firstCells_some (P := P) Γ.w i.size k a' k c' news hnl hnews
                  rw [hsz] at hf
                  simp [Builtin.append_, run_underlying hu, Builtin.lenOf, run_szOf hz, hin, hf, add_plain, hst, Ctx.regrow]
                · have hgb : (Γ.regrow o (old.toList.take (n * z') ++ news ++ old.toList.drop (n * z' + news.length)).toArray).glb s.gl.length = Γ.glb o := by simp [Ctx.regrow, hI.ng]
                  have := q2.put dst (v := .slice (some ⟨Γ.glo o, 0, none⟩) (n + k) c) (x := .c (.w (.gsl s.gl.length 0 (n + k) (n + k) z'))) ⟨c, by rw [show (Γ.regrow o (old.toList.take (n * z') ++ news ++ old.toList.drop (n * z' + news.length)).toArray).glo s.gl.length = Γ.glo o from congrArg Prod.fst hgb], Nat.le_refl _, hin, hcm, by rw [Ctx.gsz, hgb]; exact hgz, by simp [Ctx.regrow, hI.ng]⟩
                  rw [put_glr] at this
                  exact this
              · have hr := run_append_grow (P := P) Γ.w t ty e i z0 hu hi hzero ⟨Γ.glo o, 0, none⟩ n c (old.toList.take (n * z')) (by rw [hsz]; exact hol) hocell a' k c' news hnl hnews (by omega) h63 (growslice_fits (by omega) hby')
                obtain ⟨Γ', hw, q1, q2⟩ := appendG_new (ql := ql) (B := B) (dst := dst) (e := e) (old := c) (hI.dead o) hz0s hc2 (N := n + k) hmx (us := old.toList.take (n * z') ++ news) (ws := cs.take (n * z') ++ new) (by simp [e1, Nat.add_mul]; omega) (holds.append hnew')
                  (fun u hu => by rcases List.mem_append.1 hu with hu | hu; exact g5 u (List.mem_of_mem_take hu); exact e3 u hu) hfree2
                refine ⟨Γ', .slice (some ⟨Γ.w.heap.size, 0, none⟩) (n + k) (grownCap Γ.w (n + k) c e), by rw [hr, hw]; simp, q1, ?_⟩
                simp only [List.length_set] at q2
                cases dst <;> exact q2
            · cases h
        · cases h
      · cases h
    · cases h
  · cases h
theorem appendM_sound {B : Nat} {s s' : St} {a : Act} {cfg : Cfg} {fid d : Nat} (hI : Inv Γ B s a) {t ty : TypeId} {v v' : Value} {x y : V} (hx : RV Γ v x) (hy : RV Γ v' y) (h : appendM P cfg fid s d t x y = some s') :
    ∃ Γ' u, (Builtin.append_ #[t, t] ty #[v, v']).run P Γ.w = .ok u Γ'.w ∧ Step ql B Γ Γ' ∧ Inv Γ' B s' (a.put (some d) u) := by
  have c0 : ∀ y : W, (W.count y).getD 1 = 0 → W.count y = some 0 := by
    intro y h
    cases hc : W.count y with
    | none => rw [hc] at h; cases h
    | some n => rw [hc] at h; simp at h; rw [h]
  have zero : ∀ x y : W, RW Γ v x → RW Γ v' y → (W.count y).getD 1 = 0 → appendZ P s d t x y = some s' → ∃ Γ' u, (Builtin.append_ #[t, t] ty #[v, v']).run P Γ.w = .ok u Γ'.w ∧ Step ql B Γ Γ' ∧ Inv Γ' B s' (a.put (some d) u) := by
    intro x y hx hy h0 h
    obtain ⟨u, hr, hI'⟩ := appendZ_sound (P := P) (ty := ty) hI hx hy (c0 y h0) h
    exact ⟨Γ, u, hr, Step.refl _ _, hI'⟩
  unfold appendM at h
  split at h
  · rename_i o off n m z y
    split at h
    · rename_i h0; exact zero (.gsl o off n m z) y hx hy h0 h
    · exact appendG_sound (x := .gsl o off n m z) hI hx hy h
  · split at h
    · rename_i h0; exact zero _ _ hx hy h0 h
    · split at h
      · exact appendG_sound hI hx hy h
      · exact append_sound hI hx hy h
  · cases h
/-- An operation that puts its result alone, and leaves what is not to be written. -/
structure Mild (s s' : St) (dst : Option Nat) : Prop where
  sl : ∃ v, s'.sl = (s.put dst v).sl
  ro : s'.ro = s.ro
  gl : s.ro ≤ s.gl.length → s'.gl.take s.ro = s.gl.take s.ro ∧ s.ro ≤ s'.gl.length
theorem put_gl' (s : St) (d : Option Nat) (v : V) : (s.put d v).gl = s.gl := by cases d <;> rfl
theorem put_ro' (s : St) (d : Option Nat) (v : V) : (s.put d v).ro = s.ro := by cases d <;> rfl
theorem set_take {α : Type} : ∀ (l : List α) (o n : Nat) (x : α), n ≤ o → (l.set o x).take n = l.take n
  | [], _, _, _, _ => rfl
  | a :: l, o, 0, x, _ => by simp
  | a :: l, 0, n + 1, x, h => by omega
  | a :: l, o + 1, n + 1, x, h => by simp only [List.set_cons_succ, List.take_succ_cons]; rw [set_take l o n x (by omega)]
theorem Mild.of_put (s : St) (dst : Option Nat) (v : V) : Mild s (s.put dst v) dst := ⟨⟨v, rfl⟩, put_ro' _ _ _, fun h => by rw [put_gl']; exact ⟨rfl, h⟩⟩
theorem Mild.of_gl (s : St) (dst : Option Nat) (v : V) (g : List (List W)) (h : s.ro ≤ s.gl.length → g.take s.ro = s.gl.take s.ro ∧ s.ro ≤ g.length) : Mild s { (s.put dst v) with gl := g } dst := ⟨⟨v, rfl⟩, put_ro' s dst v, h⟩
theorem Mild.of_set (s : St) (dst : Option Nat) (v : V) {o : Nat} (cs : List W) (h : s.ro ≤ o) : Mild s { (s.put dst v) with gl := s.gl.set o cs } dst := .of_gl s dst v _ fun hl => ⟨set_take _ _ _ _ h, by simpa using hl⟩
theorem Mild.of_new (s : St) (dst : Option Nat) (v : V) (cs : List W) : Mild s { (s.put dst v) with gl := s.gl ++ [cs] } dst := .of_gl s dst v _ fun hl => ⟨List.take_append_of_le_length hl, by simp; omega⟩
theorem copy_mild {s s' : St} {dst : Option Nat} {t : TypeId} {x y : V} (h : copyA P s dst t x y = some s') : Mild s s' dst := by
  unfold copyA at h
  split at h
  · simp only [Option.bind_eq_some_iff] at h
    obtain ⟨z, hz, k, hk, row, hrow, h⟩ := h
    split at h
    · split at h
      · rename_i hro
        simp only [Option.bind_eq_some_iff, Option.map_eq_some_iff] at h
        obtain ⟨cs, hcs, new, hnew, cs', hp, rfl⟩ := h
        exact .of_set _ _ _ _ hro.2
      · cases h
    · simp only [Option.bind_eq_some_iff] at h
      obtain ⟨xs, hxs, h⟩ := h
      split at h
      · cases h; exact .of_put _ _ _
      · cases h
  · cases h
theorem rowOf_congr {s s2 : St} (hg : s2.gl = s.gl) (z : Nat) (x : W) : s2.rowOf z x = s.rowOf z x := by
  unfold St.rowOf
  rw [hg]
theorem put_same_gl (s : St) (d : Option Nat) (v : V) {g : List (List W)} (h : s.gl = g) : s.put d v = { (s.put d v) with gl := g } := by subst h; cases d <;> rfl
/-- What a copy comes to hangs on what is shared alone. -/
theorem copy_form {s s' : St} {dst : Option Nat} {t : TypeId} {x y : V} (h : copyA P s dst t x y = some s') : ∃ v g, s' = { (s.put dst v) with gl := g } ∧ ∀ s2 : St, s2.gl = s.gl → s2.ro = s.ro → copyA P s2 dst t x y = some { (s2.put dst v) with gl := g } := by
  unfold copyA at h
  split at h
  · rename_i e x y hu
    simp only [Option.bind_eq_some_iff] at h
    obtain ⟨z, hz, k, hk, row, hrow, h⟩ := h
    split at h
    · split at h
      · rename_i hro
        simp only [Option.bind_eq_some_iff, Option.map_eq_some_iff] at h
        obtain ⟨cs, hcs, new, hnew, cs', hp, rfl⟩ := h
        refine ⟨_, _, rfl, fun s2 e1 e2 => ?_⟩
        simp only [copyA, hu, hz, hk, Option.bind_some, rowOf_congr e1, hrow, e1, e2, if_pos hro, hcs, hnew, hp, Option.map_some]
      · cases h
    · rename_i hx
      simp only [Option.bind_eq_some_iff] at h
      obtain ⟨xs, hxs, h⟩ := h
      split at h
      · rename_i h0
        cases h
        refine ⟨_, s.gl, put_same_gl _ _ _ rfl, fun s2 e1 e2 => ?_⟩
        rw [← put_same_gl s2 _ _ e1]
        unfold copyA
        simp only [hu, hz, hk, Option.bind_some, rowOf_congr e1, hrow]
        rw [hxs, Option.bind_some, if_pos h0]
      · cases h
  · cases h
theorem clear_mild {s s' : St} {dst : Option Nat} {t : TypeId} {x : V} (h : clearA P s dst t x = some s') : Mild s s' dst := by
  unfold clearA at h
  split at h
  · simp only [Option.bind_eq_some_iff] at h
    obtain ⟨z, hz, zc, hzc, zs, hzs, h⟩ := h
    split at h
    · split at h
      · split at h
        · rename_i hro
          simp only [Option.bind_eq_some_iff, Option.map_eq_some_iff] at h
          obtain ⟨cs, hcs, cs', hp, rfl⟩ := h
          exact .of_set _ _ _ _ hro.2
        · cases h
      · simp only [Option.bind_eq_some_iff] at h
        obtain ⟨xs, hxs, h⟩ := h
        split at h
        · cases h; exact .of_put _ _ _
        · cases h
    · cases h
  · cases h
theorem make_mild {s s' : St} {dst : Option Nat} {t : TypeId} {l c : Int} (h : makeA P s dst t l c = some s') : Mild s s' dst := by
  unfold makeA at h
  split at h
  · simp only [Option.bind_eq_some_iff] at h
    obtain ⟨z, hz, nb, hnb, zc, hzc, h⟩ := h
    split at h
    · split at h
      · cases h; exact .of_put _ _ _
      · rw [Option.map_eq_some_iff] at h
        obtain ⟨zs, hzs, rfl⟩ := h
        exact .of_new _ _ _ _
    · cases h
  · cases h
theorem buildG_mild {s s' : St} {d : Nat} {t : TypeId} {len : Nat} {parts : List (Nat × Operand)} (h : buildG P s d t len parts = some s') : Mild s s' (some d) := by
  unfold buildG at h
  split at h
  · simp only [Option.bind_eq_some_iff] at h
    obtain ⟨n, hn, z, hz, ps, hps, h⟩ := h
    split at h
    · simp only [Option.bind_eq_some_iff, Option.map_eq_some_iff] at h
      obtain ⟨ws, hws, cs, hcs, rfl⟩ := h
      exact .of_new _ _ _ _
    · cases h
  · cases h
theorem appendG_mild {s s' : St} {dst : Option Nat} {t : TypeId} {x y : W} (h : appendG P s dst t x y = some s') : Mild s s' dst := by
  unfold appendG at h
  split at h
  · simp only [Option.bind_eq_some_iff] at h
    obtain ⟨z, hz, nb, hnb, zc, hzc, n, hn, k, hk, row, hrow, new, hnew, h⟩ := h
    split at h
    · split at h
      · split at h
        · cases h; exact .of_new _ _ _ _
        · cases h
      · split at h
        · rename_i hro
          rw [Option.bind_eq_some_iff] at h
          obtain ⟨cs, hcs, h⟩ := h
          split at h
          · rw [Option.map_eq_some_iff] at h
            obtain ⟨cs', hp, rfl⟩ := h
            exact .of_set _ _ _ _ hro.2
          · split at h
            · cases h
              refine .of_gl _ _ _ _ fun hl => ⟨?_, by simp; omega⟩
              rw [List.take_append_of_le_length (by simpa using hl)]
              exact set_take _ _ _ _ hro.2
            · cases h
        · cases h
      · cases h
    · cases h
  · cases h
theorem appendA_mild {s s' : St} {dst : Option Nat} {t : TypeId} {x y : V} (h : appendA P s dst t x y = some s') : Mild s s' dst := by
  unfold appendA at h
  split at h
  · simp only [Option.bind_eq_some_iff] at h
    obtain ⟨z, hz, i, hi, zc, hzc, xs, hxs, ys, hys, h⟩ := h
    split at h
    · split at h
      · split at h
        · cases h; exact ⟨⟨_, rfl⟩, rfl, fun h => ⟨rfl, h⟩⟩
        · cases h
      · split at h
        · split at h
          · cases h; exact ⟨⟨_, rfl⟩, rfl, fun h => ⟨rfl, h⟩⟩
          · cases h
        · cases h
      · cases h
    · cases h
  · cases h
theorem appendM_mild {s s' : St} {cfg : Cfg} {fid d : Nat} {t : TypeId} {x y : V} (h : appendM P cfg fid s d t x y = some s') : Mild s s' (some d) := by
  have zero : ∀ x y : W, appendZ P s d t x y = some s' → Mild s s' (some d) := by
    intro x y h
    unfold appendZ at h
    split at h
    · simp only [Option.bind_eq_some_iff] at h
      obtain ⟨z, hz, n, hn, h⟩ := h
      cases h
      exact .of_put _ _ _
    · cases h
  unfold appendM at h
  split at h
  · split at h
    · exact zero _ _ h
    · exact appendG_mild h
  · split at h
    · exact zero _ _ h
    · split at h
      · exact appendG_mild h
      · exact appendA_mild h
  · cases h
end
end Go.Proofs.YtckonoejmjblfaaGreatDoor.Ev

/- Every operation; regions in the order of their text. -/
set_option linter.unusedVariables false
set_option linter.unusedSimpArgs false
namespace Go.Proofs.YtckonoejmjblfaaGreatDoor.Ev
open Go Go.RowKit

section
variable {ql : Prop} {P : Program} {Γ : Ctx}

theorem call_sound {B : Nat} {s s' : St} {a : Act} (cfg : Cfg) {call : Caller} (hc : Sound P ql call) (hI : Inv Γ B s a) {dst : Option Nat} {f : Nat} {caps : List Nat} {args : List V} {vals : List Value}
    (ha : All2 (RV Γ) vals args) (hcap : ∀ o ∈ caps, o < Γ.ng) (h : callA cfg call s dst f caps args = some s') :
    (Enters P f ∧ Calls P f (vals.toArray ++ (caps.map fun o => ptr (Γ.glo o) 0).toArray) Γ.w fun e w' => ∃ (Γ' : Ctx) (v : Value), e = .returned v ∧ Γ'.w = w' ∧ Step ql B Γ Γ' ∧ Inv Γ' B s' (a.put dst v)) ∨
    ∃ v, (callFunc f (vals.toArray ++ (caps.map fun o => ptr (Γ.glo o) 0).toArray)).run P Γ.w = .ok (.value v) Γ.w ∧ ∃ (Γ' : Ctx), Γ'.w = Γ.w ∧ Step ql B Γ Γ' ∧ Inv Γ' B s' (a.put dst v) := by
  unfold callA at h
  simp only [Option.bind_eq_some_iff] at h
  obtain ⟨cs0, hcs0, cs, hcs, h⟩ := h
  have h1 : All2 (fun v c => RC Γ.calm v c) vals cs := by
    split at hcs
    · exact expoFs_sound (comps_sound ha hcs0) hcs
    · exact expoCs_sound (comps_sound ha hcs0) hcs
  have h2 : All2 (fun v c => RC Γ.calm v c) (caps.map fun o => ptr (Γ.glo o) 0) (caps.map fun o => C.w (.glo o 0)) := by
    refine ⟨by simp, fun i v c hv hc => ?_⟩
    rw [List.getElem?_map, Option.map_eq_some_iff] at hv hc
    obtain ⟨o, ho, rfl⟩ := hv
    obtain ⟨o', ho', rfl⟩ := hc
    rw [ho] at ho'
    cases ho'
    exact ⟨rfl, hcap o (List.mem_of_getElem? ho)⟩
  have h3 := h1.append h2
  have harr : vals.toArray ++ (caps.map fun o => ptr (Γ.glo o) 0).toArray = (vals ++ caps.map fun o => ptr (Γ.glo o) 0).toArray := by simp
  rw [harr]
  split at h
  · rw [Option.bind_eq_some_iff] at h
    obtain ⟨r, hr, h⟩ := h
    split at h
    · rename_i hlen
      cases h
      obtain ⟨k, k2⟩ := hc _ _ _ _ _ hr
      have hgl : r.2 = s.gl := by
        have := (k2 (Nat.le_refl _)).1
        rwa [List.take_of_length_le (by omega), List.take_of_length_le (Nat.le_refl _)] at this
      rcases k with ⟨k1, k3⟩ | k
      · refine .inl ⟨k1, (k3 Γ.calm _ (hI.forCall h3 s.gl.length)).mono ?_⟩
        rintro e w' ⟨Γ', v, rfl, rfl, st, hI'⟩
        rw [hgl] at hI'
        obtain ⟨q1, q2, q3⟩ := hI.back st hI'
        exact ⟨Γ.back Γ', v, rfl, rfl, q1, q2.put dst q3⟩
      · obtain ⟨v, hv, hI'⟩ := k Γ.calm _ (hI.forCall h3 s.gl.length)
        rw [hgl] at hI'
        obtain ⟨q1, q2, q3⟩ := hI.back (Step.refl _ _) hI'
        exact .inr ⟨v, hv, Γ.back Γ.calm, rfl, q1, q2.put dst q3⟩
    · cases h
  · rw [Option.map_eq_some_iff] at h
    obtain ⟨r, hr, rfl⟩ := h
    obtain ⟨k, _⟩ := hc _ _ _ _ _ hr
    rcases k with ⟨k1, k3⟩ | k
    · refine .inl ⟨k1, (k3 Γ.calm _ (hI.forCall h3 s.ro)).mono ?_⟩
      rintro e w' ⟨Γ', v, rfl, rfl, st, hI'⟩
      obtain ⟨q1, q2, q3⟩ := hI.back st hI'
      have := q2.put dst q3
      exact ⟨Γ.back Γ', v, rfl, rfl, q1, by cases dst <;> exact this⟩
    · obtain ⟨v, hv, hI'⟩ := k Γ.calm _ (hI.forCall h3 s.ro)
      obtain ⟨q1, q2, q3⟩ := hI.back (Step.refl _ _) hI'
      have := q2.put dst q3
      exact .inr ⟨v, hv, Γ.back Γ.calm, rfl, q1, by cases dst <;> exact this⟩

theorem op_sound {B : Nat} {s s' : St} {a : Act} (cfg : Cfg) (fid : Nat) {call : Caller} (hc : Sound P ql call) (hI : Inv Γ B s a) {o : Oper} (h : opA P cfg fid call s o = some s')
    {K : Act → World → Prop} {Q : Exit → Act → World → Prop} (hK : ∀ Γ' a', Step ql B Γ Γ' → Inv Γ' B s' a' → K a' Γ'.w) : o.wp P a Γ.w K Q := by
  have value : ∀ {Γ' : Ctx} {u : Value} {op : Op}, (execOp a.eval o).run P Γ.w = .ok (.value u) Γ'.w → Step ql B Γ Γ' → Inv Γ' B s' (a.put o.dst u) → o.wp P a Γ.w K Q := by
    intro Γ' u op hr h1 h2
    unfold Oper.wp
    rw [hr]
    exact hK _ _ h1 h2
  have calm : ∀ {x : V}, calmA P s o.op = some x → s' = s.put o.dst x → o.wp P a Γ.w K Q := by
    intro x hx hs
    obtain ⟨Γ', u, hr, hu, hg⟩ := calm_sound hI hx
    subst hs
    exact value (op := o.op) hr (hI.step_of_grow hg) ((hI.grow hg).put _ hu)
  have calm' : (calmA P s o.op).map (fun v => s.put o.dst v) = some s' → o.wp P a Γ.w K Q := by
    intro h
    rw [Option.map_eq_some_iff] at h
    obtain ⟨x, hx, rfl⟩ := h
    exact calm hx rfl
  obtain ⟨dst, op, type, pos, after, guard⟩ := o
  simp only at *
  have newvar : ∀ (e : TypeId) (z : Value) (c : C) (d : Nat), RC Γ z c → c.known = true → dst = some d →
      (if cfg.esc fid d then (lodges c.cells).map fun cs => { (s.put dst (.c (.w (.glo s.gl.length 0)))) with gl := s.gl ++ [cs] }
        else match look s.bx d, look s.it d with | none, none => some { (s.put dst (.c (.w (.box d 0)))) with bx := upd s.bx d c.cells } | _, _ => none) = some s' →
      ∃ Γ', (do pure (.pointer (some (← newVar e z))) : Sem Value).run P Γ.w = .ok (ptr Γ.w.heap.size 0) Γ'.w ∧ Step ql B Γ Γ' ∧ Inv Γ' B s' (a.put dst (ptr Γ.w.heap.size 0)) := by
    intro e z c d hz hk hd h
    obtain ⟨hcell, hone⟩ := hz.cells hk
    have hr : (do pure (.pointer (some (← newVar e z))) : Sem Value).run P Γ.w = .ok (ptr Γ.w.heap.size 0) (Γ.w.alloc (.cells z.cells e (0, 0))) := by
      simp only [newVar, newRow, Sem.run_bind, run_newObj, Result.andThen_ok, Sem.run_pure]
      rfl
    split at h
    · rw [Option.map_eq_some_iff] at h
      obtain ⟨cs, hcs, rfl⟩ := h
      have hec := lodges_sound hcell hcs
      obtain ⟨q1, q2⟩ := hI.newGlo (ql := ql) (w' := Γ.w.alloc (.cells z.cells e (0, 0))) rfl rfl rfl (by show (Γ.w.heap.push _).size = _; simp) (fun g hg => Below.heap_alloc _ _ g hg) z.cells e (alloc_new _ _) cs (by rw [← hec.1, List.take_length]; exact hec) hone (lodges_free hcs)
      refine ⟨_, hr, q1, ?_⟩
      have := q2.put dst (v := ptr Γ.w.heap.size 0) (x := .c (.w (.glo s.gl.length 0))) ⟨by simp [Ctx.glo, Ctx.newGlo, ptr, hI.ng], by simp [Ctx.newGlo, hI.ng]⟩
      subst hd
      exact this
    · split at h
      · rename_i hlk hlk'
        cases h
        obtain ⟨q1, q2, q3⟩ := hI.newBox (ql := ql) d hlk hlk' z.cells e c.cells hcell hone
        refine ⟨_, hr, q1, ?_⟩
        have := q2.put dst q3
        subst hd
        exact this
      · cases h
  unfold opA at h
  split at h
  · rename_i e heq
    have heq : op = _ := heq
    subst heq
    simp only [Option.bind_eq_some_iff] at h
    obtain ⟨z, hz, d, hd, h⟩ := h
    obtain ⟨z0, hz0, hrun⟩ := run_zeroC hz
    obtain ⟨k1, k2⟩ := constC_sound (Γ := Γ) hz0
    obtain ⟨Γ', hr, h1, h2⟩ := newvar e z0 z d k1 k2 hd h
    refine value (op := .move (.tmp 0)) ?_ h1 h2
    simp only [execOp, Instr.alloc]
    rw [Sem.run_bind, Sem.run_bind, hrun, Result.andThen_ok, hr]
    rfl
  · rename_i t x heq
    have heq : op = _ := heq
    subst heq
    simp only [Option.bind_eq_some_iff] at h
    obtain ⟨d, hd, v, hv, h⟩ := h
    split at h
    · rename_i l hu hb hi
      cases h
      obtain ⟨s0, hs0, hl0, hm0⟩ : ∃ s0 : ByteArray, a.eval x = .string s0 ∧ s0.data.toList = l ∧ s0.size ≤ maxLen := by
        have := ev_sound hI hv
        generalize a.eval x = u at this
        cases this with
        | str s _ hs hl => exact ⟨s, rfl, hs, hl⟩
      have hlen : l.length ≤ maxLen := by rw [← hl0, Array.length_toList]; exact hm0
      have hs1 : s0 = ⟨l.toArray⟩ := by rw [← hl0]
      obtain ⟨q1, q2, q3⟩ := hI.newIt (ql := ql) d hb hi l hlen
      refine value (op := .move (.tmp 0)) (u := ptr Γ.w.heap.size 0) (Γ' := Γ.newBox d (.stringIter ⟨l.toArray⟩ 0)) ?_ q1 ?_
      · simp only [execOp]
        rw [hs0, Sem.run_bind, run_range_string _ _ _ hu, hs1]
        rfl
      · have := q2.put dst q3
        subst hd
        exact this
    · cases h
  · rename_i x heq
    have heq : op = _ := heq
    subst heq
    rw [Option.bind_eq_some_iff] at h
    obtain ⟨v, hv, h⟩ := h
    split at h
    · rename_i k
      rw [Option.bind_eq_some_iff] at h
      obtain ⟨p, hp, h⟩ := h
      split at h
      · rename_i hlt
        cases h
        obtain ⟨ho, _, _, hlm⟩ := hI.its k p hp
        obtain ⟨q1, q2⟩ := hI.stepIt (ql := ql) hp (p.2 + (Utf8.decode ⟨p.1.toArray⟩ p.2).2)
        obtain ⟨hpt, _⟩ := ev_sound hI hv
        refine value (op := .move (.tmp 0)) (u := .tuple #[.bool true, .int .i64 p.2, .int .i32 (Utf8.decode ⟨p.1.toArray⟩ p.2).1]) (Γ' := Γ.setIt (Γ.box k) (.stringIter ⟨p.1.toArray⟩ (p.2 + (Utf8.decode ⟨p.1.toArray⟩ p.2).2))) ?_ q1 ?_
        · have hsz : p.2 < (⟨p.1.toArray⟩ : ByteArray).size := by simpa [ByteArray.size] using hlt
          simp only [execOp]
          rw [hpt]
          simp only [ptr, Instr.next, getObj, setObj, Sem.run_bind, Sem.run, ho, Result.andThen, hsz, if_true, goInt, Ctx.setIt]
          rfl
        · have hz : RV (Γ.setIt (Γ.box k) (.stringIter ⟨p.1.toArray⟩ (p.2 + (Utf8.decode ⟨p.1.toArray⟩ p.2).2))) (.tuple #[.bool true, .int .i64 p.2, .int .i32 (Utf8.decode ⟨p.1.toArray⟩ p.2).1]) (.tup [.w (.d (.bool true)), .w (.d (.int .i64 p.2)), .w (.d (.int .i32 (Utf8.decode ⟨p.1.toArray⟩ p.2).1))]) := by
            refine ⟨_, rfl, rfl, fun i v c hv hc => ?_⟩
            match i with
            | 0 => cases hv; cases hc; exact .bool true
            | 1 => cases hv; cases hc; exact .int .i64 _
            | 2 => cases hv; cases hc; exact .int .i32 _
            | i + 3 => cases hv
          have := q2.put dst hz
          cases dst <;> exact this
      · rename_i hlt
        cases h
        obtain ⟨ho, _, _, hlm⟩ := hI.its k p hp
        obtain ⟨hpt, _⟩ := ev_sound hI hv
        refine value (op := .move (.tmp 0)) (u := .tuple #[.bool false]) (Γ' := Γ) ?_ (Step.refl _ _) ?_
        · have hsz : ¬ p.2 < (⟨p.1.toArray⟩ : ByteArray).size := by simpa [ByteArray.size] using hlt
          simp only [execOp]
          rw [hpt]
          simp [ptr, Instr.next, getObj, Sem.run, ho, hsz]
        · refine hI.put dst ?_
          refine ⟨_, rfl, rfl, fun i v c hv hc => ?_⟩
          match i with
          | 0 => cases hv; cases hc; exact .bool false
          | i + 1 => cases hv
    · cases h
  · rename_i e x heq
    have heq : op = _ := heq
    subst heq
    simp only [Option.bind_eq_some_iff] at h
    obtain ⟨v, hv, c, hcv, d, hd, h⟩ := h
    obtain ⟨k1, k2⟩ := comp_sound (ev_sound hI hv) hcv
    split at h
    · rw [Option.map_eq_some_iff] at h
      obtain ⟨ds, hds, rfl⟩ := h
      obtain ⟨hcell, hone⟩ := k1.cells k2
      have hcl := closes_sound hcell hds
      have hg := grow_fresh (Γ := Γ) (w' := Γ.w.alloc (.cells (a.eval x).cells e (0, 0))) rfl rfl rfl (by show (Γ.w.heap.push _).size = _; simp) (fun g hg => Below.heap_alloc _ _ g hg)
      have hu := hI.up_of_grow hg
      refine value (op := .move (.tmp 0)) (u := ptr Γ.w.heap.size 0) (Γ' := Γ.fresh (Γ.w.alloc (.cells (a.eval x).cells e (0, 0)))) ?_ (hI.step_of_grow hg) ((hI.grow hg).put _ ?_)
      · simp only [execOp, Instr.box, newVar, newRow, Sem.run_bind, run_newObj, Result.andThen_ok, Sem.run_pure]
        rfl
      · refine ⟨_, rfl, fun j => (a.eval x).cells.getD j undef, fun j q hj => ?_⟩
        have hlt : j < (a.eval x).cells.size := by have := hcl.1; have := (List.getElem?_eq_some_iff.1 hj).1; simp at *; omega
        have hget : (a.eval x).cells.toList[j]? = some ((a.eval x).cells.getD j undef) := by
          rw [Array.getElem?_toList, Array.getD_eq_getD_getElem?, Array.getElem?_eq_getElem hlt]
          rfl
        refine ⟨.inr (by rw [add_block]), ?_, (hcl.2 j _ q hget hj).mono hu.F⟩
        rw [add_plain, Nat.zero_add]
        show (Γ.w.alloc _).cell? _ = _
        rw [cell_of_heap (alloc_new _ _)]
        show (a.eval x).cells[j]? = some ((a.eval x).cells.getD j undef)
        rw [Array.getD_eq_getD_getElem?, Array.getElem?_eq_getElem hlt]
        rfl
    obtain ⟨Γ', hr, h1, h2⟩ := newvar e _ c d k1 k2 hd h
    refine value (op := .move (.tmp 0)) ?_ h1 h2
    simp only [execOp, Instr.box]
    rw [Sem.run_bind, hr]
    rfl
  · rename_i t ad x heq
    have heq : op = _ := heq
    subst heq
    rw [Option.bind_eq_some_iff] at h
    obtain ⟨v, hv, h⟩ := h
    split at h
    · rename_i p
      simp only [Option.bind_eq_some_iff] at h
      obtain ⟨v', hv', c, hcv, n, hn, h⟩ := h
      split at h
      · rename_i hl
        rw [Option.map_eq_some_iff] at h
        obtain ⟨s2, hs2, rfl⟩ := h
        obtain ⟨k1, k2⟩ := comp_sound (ev_sound hI hv') hcv
        obtain ⟨Γ', hr, h1, h2⟩ := store_sound (ql := ql) hI (ev_sound hI hv) k1 k2 hn hl hs2
        unfold Oper.wp
        simp only [execOp, Sem.run_bind, hr, Result.andThen_ok, Sem.run_pure, Oper.upon_skip]
        exact hK _ _ h1 (h2.put dst trivial)
      · cases h
    · cases h
  · rename_i args ts heq
    have heq : op = _ := heq
    subst heq
    split at h
    · rename_i x y t t' h1 h2
      split at h
      · rename_i htt
        subst htt
        simp only [Option.bind_eq_some_iff] at h
        obtain ⟨v, hv, v', hv', d, hd, h⟩ := h
        obtain ⟨Γ', u, hr, q1, q2⟩ := appendM_sound (ql := ql) (P := P) (ty := type) hI (ev_sound hI hv) (ev_sound hI hv') h
        rw [← hd] at q2
        have e1 : args = #[x, y] := by rw [← Array.toArray_toList (xs := args), h1]
        have e2 : ts = #[t, t] := by rw [← Array.toArray_toList (xs := ts), h2]
        subst e1
        subst e2
        refine value (op := .move (.tmp 0)) ?_ q1 q2
        simp [execOp, resolve, invoke, builtin, hr]
      · cases h
    · cases h
  · rename_i t l c heq
    have heq : op = _ := heq
    subst heq
    simp only [Option.bind_eq_some_iff] at h
    obtain ⟨vl, hvl, il, hil, vc, hvc, ic, hic, h⟩ := h
    obtain ⟨kl, e1⟩ := intOf_sound (ev_sound hI hvl) hil
    obtain ⟨kc, e2⟩ := intOf_sound (ev_sound hI hvc) hic
    obtain ⟨Γ', u, hr, q1, q2⟩ := make_sound (ql := ql) (P := P) (kl := kl) (kc := kc) hI h
    refine value (op := .move (.tmp 0)) ?_ q1 q2
    simp [execOp, e1, e2, hr]
  · rename_i args ts heq
    have heq : op = _ := heq
    subst heq
    split at h
    · rename_i x y t r h1 h2
      simp only [Option.bind_eq_some_iff] at h
      obtain ⟨v, hv, v', hv', h⟩ := h
      have e1 : args = #[x, y] := by rw [← Array.toArray_toList (xs := args), h1]
      have e2 : ts[0]? = some t := by rw [← Array.getElem?_toList, h2]; rfl
      obtain ⟨Γ', u, hr, q1, q2⟩ := copy_sound (ql := ql) (P := P) (ty := type) hI e2 (ev_sound hI hv) (ev_sound hI hv') h
      subst e1
      refine value (op := .move (.tmp 0)) ?_ q1 q2
      simp [execOp, resolve, invoke, builtin, hr]
    · cases h
  · rename_i args ts heq
    have heq : op = _ := heq
    subst heq
    split at h
    · rename_i x t h1 h2
      simp only [Option.bind_eq_some_iff] at h
      obtain ⟨v, hv, h⟩ := h
      have e1 : args = #[x] := by rw [← Array.toArray_toList (xs := args), h1]
      have e2 : ts = #[t] := by rw [← Array.toArray_toList (xs := ts), h2]
      obtain ⟨Γ', u, hr, q1, q2⟩ := clear_sound (ql := ql) (P := P) (ty := type) hI (ev_sound hI hv) h
      subst e1
      subst e2
      refine value (op := .move (.tmp 0)) ?_ q1 q2
      simp [execOp, resolve, invoke, builtin, hr]
    · cases h
  · rename_i g args ts heq
    have heq : op = _ := heq
    subst heq
    rw [Option.bind_eq_some_iff] at h
    obtain ⟨v, hv, h⟩ := h
    split at h
    · rename_i f caps
      simp only [Option.bind_eq_some_iff] at h
      obtain ⟨vs, hvs, h⟩ := h
      obtain ⟨hf, hcap⟩ := ev_sound hI hv
      have hargs : args.map a.eval = (args.toList.map a.eval).toArray := Array.toList_inj.1 (by simp)
      rcases call_sound cfg hc hI (evs_sound hI hvs) hcap h with ⟨⟨fn, hfn, hname, hbody⟩, hcalls⟩ | ⟨u, hu, Γ', hw, q1, q2⟩
      rotate_left
      · refine value (op := .move (.tmp 0)) (u := u) (Γ' := Γ') ?_ q1 q2
        rw [hw]
        simp only [execOp, resolve, hf, Deferred.ofValue, Sem.run_bind, Sem.run_pure, Result.andThen_ok, invoke, hargs]
        simpa using hu
      unfold Oper.wp
      have hr : (execOp a.eval { dst, op := .call { callee := .value g, args, argTypes := ts }, type, pos, after, guard }).run P Γ.w = .ok (.enter f ((args.toList.map a.eval).toArray ++ (caps.map fun o => ptr (Γ.glo o) 0).toArray)) Γ.w := by
        simp only [execOp, resolve, hf, Deferred.ofValue, Sem.run_bind, Sem.run_pure, Result.andThen_ok, invoke, callFunc, run_program, hfn, hargs]
        rw [if_neg (by simp [hname]), if_neg (by simp [hbody])]
        simp
      rw [hr]
      simp only [Oper.upon_enter]
      refine hcalls.mono ?_
      rintro e w' ⟨Γ', v', rfl, rfl, q1, q2⟩
      exact hK _ _ q1 q2
    · cases h
  · exact calm' h

theorem wanted_sound {B : Nat} {s : St} {a : Act} (hI : Inv Γ B s a) {ops : Array Oper} {o : Oper} {q : Bool} (h : wantedA s ops.toList o = some q) : Region.wanted o (yielded ops a.tmps) = q := by
  unfold wantedA at h
  unfold Region.wanted
  split at h
  · rename_i hg
    cases h
    simp [hg]
  · rename_i j want hg
    simp only [hg]
    rw [Option.bind_eq_some_iff] at h
    obtain ⟨d, hd, h⟩ := h
    split at h
    · rename_i b hb
      cases h
      have hv := get_sound hI d
      rw [hb] at hv
      have : yielded ops a.tmps j = some b := by
        unfold yielded
        rw [Array.getElem?_toList] at hd
        rw [hd]
        simp only [Option.bind_some]
        rw [Array.getD_eq_getD_getElem?] at hv
        cases ht : a.tmps[d]? with
        | none => rw [ht] at hv; cases hv
        | some v => rw [ht] at hv; cases hv; rfl
      rw [this]
      simp
    · rename_i hb
      cases h
      have hv := get_sound hI d
      rw [hb] at hv
      have : yielded ops a.tmps j = none := by
        unfold yielded
        rw [Array.getElem?_toList] at hd
        rw [hd]
        simp only [Option.bind_some]
        rw [Array.getD_eq_getD_getElem?] at hv
        cases ht : a.tmps[d]? with
        | none => rfl
        | some v =>
          rw [ht] at hv
          obtain ⟨vs, hv, _⟩ := hv
          simp only [Option.getD_some] at hv
          subst hv
          rfl
      rw [this]
      rfl
    · cases h

theorem step_sound {B : Nat} {s s' : St} {a : Act} (cfg : Cfg) (fid : Nat) {call : Caller} (hc : Sound P ql call) (hI : Inv Γ B s a) {ops : Array Oper} {o : Oper} (h : stepA P cfg fid call ops.toList s o = some s')
    {K : Act → World → Prop} {Q : Exit → Act → World → Prop} (hK : ∀ Γ' a', Step ql B Γ Γ' → Inv Γ' B s' a' → K a' Γ'.w) :
    if Region.wanted o (yielded ops a.tmps) then o.wp P a Γ.w K Q else K (a.put o.dst undef) Γ.w := by
  unfold stepA at h
  rw [Option.bind_eq_some_iff] at h
  obtain ⟨q, hq, h⟩ := h
  rw [wanted_sound hI hq]
  cases q with
  | true => exact op_sound cfg fid hc hI h hK
  | false =>
    simp only [Option.some.injEq] at h
    subst h
    exact hK Γ _ (Step.refl _ _) (hI.put o.dst (x := V.no) ⟨#[], rfl, All2.nil⟩)

/-- A frame of a call, or of a round of a loop over a function. -/
abbrev Fr (r : Option Nat) : Fence := { Fence.wide with round := r }
theorem wpIn_of_wp {r : Option Nat} {n : Nat} {o : Oper} {a : Act} {w : World} {K : Act → World → Prop} {Q : Exit → Act → World → Prop} (hd : ∀ c, o.op ≠ .defer c) (h : o.wp P a w K Q) : o.wpIn (Fr r) n P a w K Q := by
  refine ⟨fun _ _ => trivial, ?_⟩
  rw [Oper.semAt_eq _ _ _ hd]
  unfold Oper.wp at h
  generalize (execOp a.eval o).run P w = res at h ⊢
  unfold Oper.upon at h
  split at h
  · exact h
  · exact h
  · exact h
  · exact ⟨fun h => (by cases h), callsIn_wide.2 h⟩
  · refine ⟨fun h => (by cases h), fun c cs _ => ?_⟩
    obtain ⟨v, w', r, s⟩ := h c cs
    exact ⟨v, w', r, stepsIn_wide.2 s⟩
  · exact h
  · exact h.elim
theorem opA_defer {cfg : Cfg} {fid : Nat} {call : Caller} {s s' : St} {o : Oper} (h : opA P cfg fid call s o = some s') : ∀ c, o.op ≠ .defer c := by
  intro c e
  obtain ⟨dst, op, type, pos, after, guard⟩ := o
  simp only at e
  subst e
  simp [opA, calmA] at h
theorem step_soundIn {r : Option Nat} {n : Nat} {B : Nat} {s s' : St} {a : Act} (cfg : Cfg) (fid : Nat) {call : Caller} (hc : Sound P ql call) (hI : Inv Γ B s a) {ops : Array Oper} {o : Oper} (h : stepA P cfg fid call ops.toList s o = some s')
    {K : Act → World → Prop} {Q : Exit → Act → World → Prop} (hK : ∀ Γ' a', Step ql B Γ Γ' → Inv Γ' B s' a' → K a' Γ'.w) :
    if Region.wanted o (yielded ops a.tmps) then o.wpIn (Fr r) n P a Γ.w K Q else (∀ f, o.about P Γ.w a.eval = some f → (Fr r).fn f) ∧ K (a.put o.dst undef) Γ.w := by
  have h1 := step_sound cfg fid hc hI h (K := K) (Q := Q) hK
  unfold stepA at h
  rw [Option.bind_eq_some_iff] at h
  obtain ⟨q, hq, h⟩ := h
  rw [wanted_sound hI hq] at h1 ⊢
  cases q with
  | true => exact wpIn_of_wp (opA_defer h) h1
  | false => exact ⟨fun _ _ => trivial, h1⟩

theorem litOf_rest {cfg : Cfg} {fid : Nat} {o : Oper} {l r : List Oper} {d : Nat} {t : TypeId} {len : Nat} {parts : List (Nat × Operand)} (hl : litOf cfg fid (o :: l) = some (d, t, len, parts, r)) : r = l := by
  simp only [litOf] at hl
  split at hl
  · split at hl
    · simp only [Option.some.injEq, Prod.mk.injEq] at hl
      exact hl.2.2.2.2.symm
    · cases hl
  · cases hl
theorem lit_sound {r' : Option Nat} {n : Nat} {B : Nat} {s s' : St} {a : Act} {cfg : Cfg} {fid : Nat} (hI : Inv Γ B s a) {o : Oper} {l r : List Oper} {d : Nat} {t : TypeId} {len : Nat} {parts : List (Nat × Operand)} (hl : litOf cfg fid (o :: l) = some (d, t, len, parts, r)) (h : buildG P s d t len parts = some s') {ys : Nat → Option Bool}
    {K : Act → World → Prop} {Q : Exit → Act → World → Prop} (hK : ∀ Γ' a', Step ql B Γ Γ' → Inv Γ' B s' a' → K a' Γ'.w) :
    if Region.wanted o ys then o.wpIn (Fr r') n P a Γ.w K Q else (∀ f, o.about P Γ.w a.eval = some f → (Fr r').fn f) ∧ K (a.put o.dst undef) Γ.w := by
  simp only [litOf] at hl
  split at hl
  · rename_i d' t' len' ps hd ho hg
    split at hl
    · simp only [Option.some.injEq, Prod.mk.injEq] at hl
      obtain ⟨rfl, rfl, rfl, rfl, rfl⟩ := hl
      have hw : Region.wanted o ys = true := by unfold Region.wanted; rw [hg]
      rw [if_pos hw]
      obtain ⟨Γ', u, hr, st, hI'⟩ := buildG_sound (ql := ql) hI h
      refine wpIn_of_wp (by rw [ho]; intro c e; cases e) ?_
      unfold Oper.wp
      have hx : (execOp a.eval o).run P Γ.w = .ok (.value u) Γ'.w := by
        unfold execOp
        rw [ho]
        simp only [Sem.run_bind, hr, Result.andThen_ok, Sem.run_pure]
      rw [hx]
      exact hK _ _ st (by rw [hd]; exact hI')
    · cases hl
  · cases hl
theorem ops_sound {r : Option Nat} {n : Nat} {B : Nat} (cfg : Cfg) (fid : Nat) {call : Caller} (hc : Sound P ql call) {ops : Array Oper} {Q : Exit → Act → World → Prop} : ∀ (l : List Oper) {Γ : Ctx} {s s' : St} {a : Act}, Inv Γ B s a → opsA P cfg fid call ops.toList l s = some s' →
    (∀ Γ' a', Step ql B Γ Γ' → Inv Γ' B s' a' → Q .normal a' Γ'.w) → wpListIn (Fr r) n P ops Q l a Γ.w
  | [], Γ, s, s', a, hI, h, hQ => by
    simp only [opsA, Option.some.injEq] at h
    subst h
    exact hQ Γ a (Step.refl _ _) hI
  | o :: l, Γ, s, s', a, hI, h, hQ => by
    simp only [opsA, Option.bind_eq_some_iff] at h
    obtain ⟨s1, h1, h⟩ := h
    refine wpListIn_step fun K hK => ?_
    exact step_soundIn cfg fid hc hI h1 fun Γ' a' st hI' => hK _ _ (ops_sound cfg fid hc l hI' h fun Γ'' a'' st' hI'' => hQ Γ'' a'' (st.trans st') hI'')
end
end Go.Proofs.YtckonoejmjblfaaGreatDoor.Ev
