/- Stores, calls; every operation. -/
import Derived.Test.YtkklkkppedociaaEvG
set_option linter.unusedVariables false
set_option linter.unusedSimpArgs false
namespace Go.Proofs.Ytkklkkppedociaa.Ev
open Go Go.RowKit

section
variable {P : Program} {Γ : Ctx}

/-- A block of the call's own, or a shared one, is written. -/
def Ctx.setRow (Γ : Ctx) (g : Nat) (new : Array Value) : Ctx := { Γ with w := Γ.w.setRow g new }
theorem Inv.up_setRow {B : Nat} {s : St} {a : Act} (h : Inv Γ B s a) {g : Nat} {ow : Owner} (hown : Γ.own g = some ow) (hnt : ∀ k, ow ≠ .tok k) (new : Array Value) : Up Γ (Γ.setRow g new) := by
  refine ⟨fun ad had => ⟨had, cell_of_block (setRow_other _ _ _ _ ?_)⟩, Nat.le_refl _, fun _ _ => rfl, fun k hk => ⟨hk, rfl⟩, fun k n hk => ⟨n, hk, .inl ⟨rfl, rfl⟩⟩⟩
  rintro rfl
  rcases (h.fix ad had).2 with h1 | ⟨k, h1⟩
  · rw [hown] at h1; cases h1
  · rw [hown] at h1; cases h1; exact hnt k rfl
theorem Inv.setBox {B : Nat} {s : St} {a : Act} (h : Inv Γ B s a) {k : Nat} {cs cs' : List W} (hk : look s.bx k = some cs) {old new : Array Value} {ty : TypeId} (ho : Γ.w.heap[Γ.box k]? = some (.cells old ty (0, 0)))
    (hn : All2 (RW Γ) new.toList cs') (h1 : ∀ u ∈ new.toList, u.oneCell' = true) : Step B Γ (Γ.setRow (Γ.box k) new) ∧ Inv (Γ.setRow (Γ.box k) new) B { s with bx := upd s.bx k cs' } a := by
  obtain ⟨_, _, _, hB, _, hown, _⟩ := h.boxes k cs hk
  have u := h.up_setRow hown (by simp) new
  have hs : (Γ.w.setRow (Γ.box k) new).heap.size = Γ.w.heap.size := by simp [World.setRow]
  have hne : ∀ b ow, Γ.own b = some ow → ow ≠ .box k → b ≠ Γ.box k := by
    rintro b ow hb hk rfl
    rw [hown] at hb; cases hb; exact hk rfl
  refine ⟨⟨rfl, rfl, rfl, by show _ ≤ (Γ.w.setRow _ _).heap.size; omega, fun g hg _ => setRow_other _ _ _ _ (by omega), u.F, fun _ ha => .inl ha, Nat.le_refl _, fun _ _ => rfl, fun _ _ => rfl⟩,
    h.defers, h.size, fun i v x hv hx => (h.slots i v x hv hx).up u, h.len, fun j => ?_, h.ng, fun j ds hj => ?_, fun j t hj => ?_, fun o ds hj => ?_, fun ad had => ?_, fun g hg => ?_, by show B ≤ (Γ.w.setRow _ _).heap.size; rw [hs]; exact h.base, fun j p hj => by
      obtain ⟨e1, e2, e3, e4⟩ := h.its j p hj
      exact ⟨(setRow_other _ _ _ _ (hne _ _ e3 (fun e => by cases e; rw [e1] at ho; cases ho))).trans e1, e2, e3, e4⟩⟩
  · simp only [look_upd]
    by_cases hkj : k = j
    · subst hkj; simp [Ctx.setRow, h.bl, hk]
    · simp [hkj, Ctx.setRow, h.bl]
  · rw [look_upd] at hj
    by_cases hkj : k = j
    · subst hkj
      simp only [if_true, Option.some.injEq] at hj
      subst hj
      exact ⟨new, ty, setRow_heap _ _ _ _ _ _ ho, hB, hn.mono fun _ _ => RW.up u, hown, h1⟩
    · rw [if_neg hkj] at hj
      obtain ⟨vs, ty', e1, e2, e3, e4, e5⟩ := h.boxes j ds hj
      exact ⟨vs, ty', (setRow_other _ _ _ _ (hne _ _ e4 (by simp [Ne.symm hkj]))).trans e1, e2, e3.mono fun _ _ => RW.up u, e4, e5⟩
  · obtain ⟨b, cap, cur, e1, e2, e3⟩ := h.toks j t hj
    exact ⟨b, cap, cur, e1, (setRow_other _ _ _ _ (hne _ _ e3.2.2.2.2.1 (by simp))).trans e2, e3⟩
  · obtain ⟨vs, ty', e1, e3, e4, e5, e6⟩ := h.globs o ds hj
    exact ⟨vs, ty', (setRow_other _ _ _ _ (hne _ _ e4 (by simp))).trans e1, e3.mono fun _ _ => RW.up u, e4, e5, e6⟩
  · obtain ⟨e1, e2⟩ := h.fix ad had
    exact ⟨by show _ < (Γ.w.setRow _ _).heap.size; rw [hs]; exact e1, e2⟩
  · show _ < (Γ.w.setRow _ _).heap.size
    rw [hs]
    exact h.ownlt g hg
/-- An iterator goes on. -/
def Ctx.setIt (Γ : Ctx) (g : Nat) (o : Obj) : Ctx := { Γ with w := { Γ.w with heap := Γ.w.heap.setIfInBounds g o } }
theorem Inv.stepIt {B : Nat} {s : St} {a : Act} (h : Inv Γ B s a) {k : Nat} {p : List UInt8 × Nat} (hk : look s.it k = some p) (q : Nat) :
    Step B Γ (Γ.setIt (Γ.box k) (.stringIter ⟨p.1.toArray⟩ q)) ∧ Inv (Γ.setIt (Γ.box k) (.stringIter ⟨p.1.toArray⟩ q)) B { s with it := upd s.it k (p.1, q) } a := by
  obtain ⟨ho, hB, hown, hl⟩ := h.its k p hk
  have hlt := h.ownlt _ (by rw [hown]; simp)
  have hother : ∀ b, b ≠ Γ.box k → (Γ.w.heap.setIfInBounds (Γ.box k) (.stringIter ⟨p.1.toArray⟩ q))[b]? = Γ.w.heap[b]? := fun b hb => Array.getElem?_setIfInBounds_ne (Ne.symm hb)
  have hself : (Γ.w.heap.setIfInBounds (Γ.box k) (.stringIter ⟨p.1.toArray⟩ q))[Γ.box k]? = some (.stringIter ⟨p.1.toArray⟩ q) := Array.getElem?_setIfInBounds_self_of_lt hlt
  have hs : (Γ.w.heap.setIfInBounds (Γ.box k) (.stringIter ⟨p.1.toArray⟩ q)).size = Γ.w.heap.size := by simp
  have u : Up Γ (Γ.setIt (Γ.box k) (.stringIter ⟨p.1.toArray⟩ q)) := by
    refine ⟨fun ad had => ⟨had, cell_of_block (hother _ ?_)⟩, Nat.le_refl _, fun _ _ => rfl, fun k hk => ⟨hk, rfl⟩, fun k n hk => ⟨n, hk, .inl ⟨rfl, rfl⟩⟩⟩
    intro e
    rcases (h.fix ad had).2 with h1 | ⟨j, h1⟩
    · rw [e, hown] at h1; cases h1
    · rw [e, hown] at h1; cases h1
  have hne : ∀ b ow, Γ.own b = some ow → ow ≠ .box k → b ≠ Γ.box k := by
    rintro b ow hb hk rfl
    rw [hown] at hb; cases hb; exact hk rfl
  refine ⟨⟨rfl, rfl, rfl, by show _ ≤ (Γ.w.heap.setIfInBounds _ _).size; omega, fun g hg _ => hother _ (by omega), u.F, fun _ ha => .inl ha, Nat.le_refl _, fun _ _ => rfl, fun _ _ => rfl⟩,
    h.defers, h.size, fun i v x hv hx => (h.slots i v x hv hx).up u, h.len, fun j => ?_, h.ng, fun j ds hj => ?_, fun j t hj => ?_, fun o ds hj => ?_, fun ad had => ?_, fun g hg => ?_, by show B ≤ (Γ.w.heap.setIfInBounds _ _).size; rw [hs]; exact h.base, fun j r hj => ?_⟩
  · simp only [look_upd]
    by_cases hkj : k = j
    · subst hkj; simp [Ctx.setIt, h.bl, hk]
    · simp [hkj, Ctx.setIt, h.bl]
  · obtain ⟨vs, ty', e1, e2, e3, e4, e5⟩ := h.boxes j ds hj
    exact ⟨vs, ty', (hother _ (hne _ _ e4 (fun e => by cases e; rw [e1] at ho; cases ho))).trans e1, e2, e3.mono fun _ _ => RW.up u, e4, e5⟩
  · obtain ⟨b, cap, cur, e1, e2, e3⟩ := h.toks j t hj
    exact ⟨b, cap, cur, e1, (hother _ (hne _ _ e3.2.2.2.2.1 (by simp))).trans e2, e3⟩
  · obtain ⟨vs, ty', e1, e3, e4, e5, e6⟩ := h.globs o ds hj
    exact ⟨vs, ty', (hother _ (hne _ _ e4 (by simp))).trans e1, e3.mono fun _ _ => RW.up u, e4, e5, e6⟩
  · obtain ⟨e1, e2⟩ := h.fix ad had
    exact ⟨by show _ < (Γ.w.heap.setIfInBounds _ _).size; rw [hs]; exact e1, e2⟩
  · show _ < (Γ.w.heap.setIfInBounds _ _).size
    rw [hs]
    exact h.ownlt g hg
  · rw [look_upd] at hj
    by_cases hkj : k = j
    · subst hkj
      simp only [if_true, Option.some.injEq] at hj
      subst hj
      exact ⟨hself, hB, hown, hl⟩
    · rw [if_neg hkj] at hj
      obtain ⟨e1, e2, e3, e4⟩ := h.its j r hj
      exact ⟨(hother _ (hne _ _ e3 (by simp [Ne.symm hkj]))).trans e1, e2, e3, e4⟩
theorem Inv.setGlo {B : Nat} {s : St} {a : Act} (h : Inv Γ B s a) {k : Nat} {cs cs' : List W} (hk : s.gl[k]? = some cs) {old new : Array Value} {ty : TypeId} (ho : Γ.w.heap[Γ.glo k]? = some (.cells old ty (0, 0)))
    (hn : All2 (RW Γ) new.toList cs') (h1 : ∀ u ∈ new.toList, u.oneCell' = true) (hf : ∀ c ∈ cs', W.free c = true) : Step B Γ (Γ.setRow (Γ.glo k) new) ∧ Inv (Γ.setRow (Γ.glo k) new) B { s with gl := s.gl.set k cs' } a := by
  obtain ⟨_, _, _, _, hown, _⟩ := h.globs k cs hk
  have hkl : k < s.gl.length := (List.getElem?_eq_some_iff.1 hk).1
  have u := h.up_setRow hown (by simp) new
  have hs : (Γ.w.setRow (Γ.glo k) new).heap.size = Γ.w.heap.size := by simp [World.setRow]
  have hne : ∀ b ow, Γ.own b = some ow → ow ≠ .glo k → b ≠ Γ.glo k := by
    rintro b ow hb hk rfl
    rw [hown] at hb; cases hb; exact hk rfl
  refine ⟨⟨rfl, rfl, rfl, by show _ ≤ (Γ.w.setRow _ _).heap.size; omega, fun g hg hno => setRow_other _ _ _ _ (fun e => hno k (e ▸ hown)), u.F, fun _ ha => .inl ha, Nat.le_refl _, fun _ _ => rfl, fun _ _ => rfl⟩,
    h.defers, h.size, fun i v x hv hx => (h.slots i v x hv hx).up u, h.len, h.bl, by simp [Ctx.setRow, h.ng], fun j ds hj => ?_, fun j t hj => ?_, fun o ds hj => ?_, fun ad had => ?_, fun g hg => ?_, by show B ≤ (Γ.w.setRow _ _).heap.size; rw [hs]; exact h.base, fun j p hj => by
      obtain ⟨e1, e2, e3, e4⟩ := h.its j p hj
      exact ⟨(setRow_other _ _ _ _ (hne _ _ e3 (by simp))).trans e1, e2, e3, e4⟩⟩
  · obtain ⟨vs, ty', e1, e2, e3, e4, e5⟩ := h.boxes j ds hj
    exact ⟨vs, ty', (setRow_other _ _ _ _ (hne _ _ e4 (by simp))).trans e1, e2, e3.mono fun _ _ => RW.up u, e4, e5⟩
  · obtain ⟨b, cap, cur, e1, e2, e3⟩ := h.toks j t hj
    exact ⟨b, cap, cur, e1, (setRow_other _ _ _ _ (hne _ _ e3.2.2.2.2.1 (by simp))).trans e2, e3⟩
  · by_cases hko : k = o
    · subst hko
      rw [List.getElem?_set_self hkl, Option.some.injEq] at hj
      subst hj
      exact ⟨new, ty, setRow_heap _ _ _ _ _ _ ho, hn.mono fun _ _ => RW.up u, hown, h1, hf⟩
    · rw [List.getElem?_set_ne hko] at hj
      obtain ⟨vs, ty', e1, e3, e4, e5, e6⟩ := h.globs o ds hj
      exact ⟨vs, ty', (setRow_other _ _ _ _ (hne _ _ e4 (by simp [Ne.symm hko]))).trans e1, e3.mono fun _ _ => RW.up u, e4, e5, e6⟩
  · obtain ⟨e1, e2⟩ := h.fix ad had
    exact ⟨by show _ < (Γ.w.setRow _ _).heap.size; rw [hs]; exact e1, e2⟩
  · show _ < (Γ.w.setRow _ _).heap.size
    rw [hs]
    exact h.ownlt g hg

theorem store_sound {B : Nat} {s s' : St} {a : Act} (hI : Inv Γ B s a) {p v : Value} {x : W} {c : C} {t : TypeId} {n : Nat} (hp : RW Γ p x) (hc : RC Γ v c) (hk : c.known = true) (hn : szOf P t = some n) (hl : c.cells.length = n) (h : s.storeW x c.cells = some s') :
    ∃ Γ', (Instr.storeAt t p v).run P Γ.w = .ok () Γ'.w ∧ Step B Γ Γ' ∧ Inv Γ' B s' a := by
  obtain ⟨hcell, hone⟩ := hc.cells hk
  have hvs : v.cells.size = n := by have := hcell.1; simp at this; omega
  have run : ∀ (g off : Nat) (old : Array Value) (ty : TypeId), Γ.w.heap[g]? = some (.cells old ty (0, 0)) → off + v.cells.size ≤ old.size →
      (Instr.storeAt t (ptr g off) v).run P Γ.w = .ok () (Γ.w.setRow g (old.toList.take off ++ v.cells.toList ++ old.toList.drop (off + v.cells.toList.length)).toArray) := by
    intro g off old ty hg hle
    have := run_storeCells_at P g off ty v.cells.toList 0 old Γ.w hg (by simp; omega) hone
    simp only [Nat.add_zero] at this
    simp only [Instr.storeAt, ptr, Instr.sureAddr, Sem.run_bind, Sem.run_pure, Result.andThen_ok, storeVar, run_szOf hn]
    rw [if_neg (by omega)]
    exact this
  have hone2 : ∀ (old : Array Value) (off : Nat), (∀ u ∈ old.toList, u.oneCell' = true) → ∀ u ∈ (old.toList.take off ++ v.cells.toList ++ old.toList.drop (off + v.cells.toList.length)).toArray.toList, u.oneCell' = true := by
    intro old off ho u hu
    simp only [List.mem_append] at hu
    rcases hu with (hu | hu) | hu
    · exact ho u (List.mem_of_mem_take hu)
    · exact hone u hu
    · exact ho u (List.mem_of_mem_drop hu)
  unfold St.storeW at h
  split at h
  · rename_i k off
    simp only [Option.bind_eq_some_iff, Option.map_eq_some_iff] at h
    obtain ⟨cs, hcs, cs', hp', rfl⟩ := h
    obtain ⟨old, ty, e1, e2, e3, e4, e5⟩ := hI.boxes k cs hcs
    obtain ⟨rfl, _⟩ := hp
    have hle : off + v.cells.size ≤ old.size := by
      obtain ⟨q, _, _⟩ := paste_spec hp'
      have := e3.1
      simp at this
      omega
    exact ⟨_, run _ off old ty e1 hle, hI.setBox hcs e1 (e3.paste hcell hp') (hone2 old off e5)⟩
  · rename_i o off
    split at h
    · cases h
    · simp only [Option.bind_eq_some_iff, Option.map_eq_some_iff] at h
      obtain ⟨cs, hcs, new', hnew, cs', hp', rfl⟩ := h
      obtain ⟨old, ty, e1, e3, e4, e5, e6⟩ := hI.globs o cs hcs
      obtain ⟨rfl, _⟩ := hp
      have hcell' := expos_sound hcell hnew
      have hle : off + v.cells.size ≤ old.size := by
        obtain ⟨q, _, _⟩ := paste_spec hp'
        have := e3.1
        have := hcell'.1
        simp at *
        omega
      refine ⟨_, run _ off old ty e1 hle, hI.setGlo hcs e1 (e3.paste hcell' hp') (hone2 old off e5) ?_⟩
      intro c hc
      obtain ⟨_, rfl, _⟩ := paste_spec hp'
      simp only [List.mem_append] at hc
      rcases hc with (hc | hc) | hc
      · exact e6 c (List.mem_of_mem_take hc)
      · exact expos_free hnew c hc
      · exact e6 c (List.mem_of_mem_drop hc)
  · cases h

/-! calls -/
/-- What lies before a callee. -/
def Ctx.calm (Γ : Ctx) : Ctx := { Γ with bl := fun _ => False, len := fun _ => none }
theorem RW.calm {v : Value} {x : W} (h : RW Γ v x) (hf : x.free = true) : RW Γ.calm v x := by
  cases x <;> simp only [W.free, reduceCtorEq, Bool.false_eq_true] at hf <;> exact h
/-- The caller's view behind a call. -/
def Ctx.back (Γ Γ' : Ctx) : Ctx := { Γ' with box := Γ.box, bl := Γ.bl, tok := Γ.tok, len := Γ.len }
theorem RW.back {Γ' : Ctx} {v : Value} {x : W} (h : RW Γ' v x) (hb : ∀ k, ¬ Γ'.bl k) (hl : ∀ k, Γ'.len k = none) : RW (Γ.back Γ') v x := by
  cases x <;> try exact h
  · obtain ⟨_, n, h2, _⟩ := h
    rw [hl] at h2
    cases h2
  · exact absurd h.2 (hb _)
  · obtain ⟨_, _, _, _, _, h3⟩ := h
    exact absurd h3 (hb _)
theorem RC.back {Γ' : Ctx} {v : Value} {x : C} (h : RC Γ' v x) (hb : ∀ k, ¬ Γ'.bl k) (hl : ∀ k, Γ'.len k = none) : RC (Γ.back Γ') v x := by
  cases x with
  | w x => exact RW.back h hb hl
  | agg xs => obtain ⟨cs, rfl, h1, h2⟩ := h; exact ⟨cs, rfl, h1.mono fun _ _ k => RW.back k hb hl, h2⟩
theorem RV.back {Γ' : Ctx} {v : Value} {x : V} (h : RV Γ' v x) (hb : ∀ k, ¬ Γ'.bl k) (hl : ∀ k, Γ'.len k = none) : RV (Γ.back Γ') v x := by
  cases x with
  | c x => exact RC.back h hb hl
  | tup xs => obtain ⟨cs, rfl, h1⟩ := h; exact ⟨cs, rfl, h1.mono fun _ _ k => RC.back k hb hl⟩

/-- What a function must be for a call to enter it. -/
def Enters (P : Program) (f : Nat) : Prop := ∃ fn, P.funcs[f]? = some fn ∧ (fn.name == "runtime.NumGoroutine") = false ∧ fn.body.isNone = false
/-- A callee's contract, in the evaluator's words. -/
def Sound (P : Program) (call : Caller) : Prop :=
  ∀ f args ro gl r, call f args ro gl = some r → Enters P f ∧ (ro = true → r.2 = gl) ∧ ∀ (Γ : Ctx) (vals : List Value), Inv Γ Γ.w.heap.size { sl := args.map .c, bx := [], tk := [], gl, ro } { tmps := vals.toArray, defers := [] } →
    Calls P f vals.toArray Γ.w fun e w' => ∃ (Γ' : Ctx) (v : Value), e = .returned v ∧ Γ'.w = w' ∧ Step Γ.w.heap.size Γ Γ' ∧ Inv Γ' Γ.w.heap.size { sl := [r.1], bx := [], tk := [], gl := r.2, ro } { tmps := #[v], defers := [] }

theorem Inv.back {B : Nat} {s : St} {a : Act} (h : Inv Γ B s a) {Γ' : Ctx} {gl : List (List W)} {x : V} {v : Value} {ro : Bool} (st : Step Γ.w.heap.size Γ.calm Γ') (h' : Inv Γ' Γ.w.heap.size { sl := [x], bx := [], tk := [], gl, ro } { tmps := #[v], defers := [] }) :
    Step B Γ (Γ.back Γ') ∧ Inv (Γ.back Γ') B { s with gl := gl } a ∧ RV (Γ.back Γ') v x := by
  have hb : ∀ k, ¬ Γ'.bl k := fun k hk => by rw [h'.bl] at hk; simp [look] at hk
  have hl : ∀ k, Γ'.len k = none := fun k => by rw [h'.len]; rfl
  have u : Up Γ (Γ.back Γ') := ⟨st.F, st.ng, st.glo, fun k hk => ⟨hk, rfl⟩, fun k n hk => ⟨n, hk, .inl ⟨rfl, rfl⟩⟩⟩
  have hst : Step B Γ (Γ.back Γ') := ⟨st.os, st.tape, st.output, st.size, fun g hg ho => st.old g (Nat.lt_of_lt_of_le hg h.base) ho, st.F, fun a ha => by
    rcases st.Fnew a ha with ha | ha
    · exact .inl ha
    · exact .inr (Nat.le_trans h.base ha), st.ng, st.glo, fun g hg => st.own g (Nat.lt_of_lt_of_le hg h.base)⟩
  have hblk : ∀ b ow, Γ.own b = some ow → (∀ o, ow ≠ .glo o) → Γ'.w.heap[b]? = Γ.w.heap[b]? ∧ Γ'.own b = some ow := fun b ow hb ho => by
    have hlt := h.ownlt b (by rw [hb]; simp)
    exact ⟨st.old b hlt (fun o e => by
      have e' : Γ.own b = some (.glo o) := e
      rw [hb] at e'; cases e'; exact ho o rfl), (st.own b hlt).trans hb⟩
  refine ⟨hst, ⟨h.defers, h.size, fun i v x hv hx => (h.slots i v x hv hx).up u, h.len, h.bl, h'.ng, fun k cs hk => ?_, fun k t hk => ?_, fun o cs ho => ?_, h'.fix, h'.ownlt, Nat.le_trans h.base st.size, fun k p hk => by
    obtain ⟨e1, e2, e3, e4⟩ := h.its k p hk
    obtain ⟨q1, q2⟩ := hblk _ _ e3 (by simp)
    exact ⟨q1.trans e1, e2, q2, e4⟩⟩, RV.back (h'.slots 0 v x rfl rfl) hb hl⟩
  · obtain ⟨vs, ty, e1, e2, e3, e4, e5⟩ := h.boxes k cs hk
    obtain ⟨q1, q2⟩ := hblk _ _ e4 (by simp)
    exact ⟨vs, ty, q1.trans e1, e2, e3.mono fun _ _ => RW.up u, q2, e5⟩
  · obtain ⟨b, cap, cur, e1, e2, e3, e4, e5, e6, e7, e8, e9⟩ := h.toks k t hk
    obtain ⟨q1, q2⟩ := hblk _ _ e7 (by simp)
    have hlt := h.ownlt b (by rw [e7]; simp)
    refine ⟨b, cap, cur, e1, q1.trans e2, e3, e4, e5, e6, q2, e8, fun a ha hb' => ?_⟩
    rcases st.Fnew a ha with ha | ha
    · exact e9 a ha hb'
    · omega
  · obtain ⟨vs, ty, e1, e3, e4⟩ := h'.globs o cs ho
    exact ⟨vs, ty, e1, e3.mono fun _ _ k => RW.back k hb hl, e4⟩

theorem comps_sound : ∀ {vs : List Value} {xs : List V} {cs : List C}, All2 (RV Γ) vs xs → comps xs = some cs → All2 (fun v c => RC Γ v c ∧ c.known = true) vs cs
  | vs, [], cs, h, hx => by simp only [comps, Option.some.injEq] at hx; subst hx; rw [h.nil_iff]; exact All2.nil
  | vs, x :: r, cs, h, hx => by
    simp only [comps, Option.bind_eq_some_iff, Option.map_eq_some_iff] at hx
    obtain ⟨c, hc, b, hb, rfl⟩ := hx
    obtain ⟨v, vs', rfl, h1, h2⟩ := h.uncons
    exact All2.cons (comp_sound h1 hc) (comps_sound h2 hb)
def C.free : C → Bool
  | .w x => x.free
  | .agg xs => xs.all W.free
theorem RC.calm {v : Value} {x : C} (h : RC Γ v x) (hf : x.free = true) : RC Γ.calm v x := by
  cases x with
  | w x => exact RW.calm h hf
  | agg xs =>
    obtain ⟨cs, rfl, h1, h2⟩ := h
    exact ⟨cs, rfl, ⟨h1.1, fun i a b ha hb => RW.calm (h1.2 i a b ha hb) (List.all_eq_true.1 hf b (List.mem_of_getElem? hb))⟩, h2⟩
theorem cexpo_sound {v : Value} {x y : C} (h : RC Γ v x) (hx : C.expo x = some y) : RC Γ v y ∧ y.free = true := by
  cases x with
  | w x =>
    simp only [C.expo, Option.map_eq_some_iff] at hx
    obtain ⟨z, hz, rfl⟩ := hx
    exact ⟨expo_sound h hz, expo_free hz⟩
  | agg xs =>
    simp only [C.expo, Option.map_eq_some_iff] at hx
    obtain ⟨z, hz, rfl⟩ := hx
    obtain ⟨cs, rfl, h1, h2⟩ := h
    exact ⟨⟨cs, rfl, expos_sound h1 hz, h2⟩, List.all_eq_true.2 (expos_free hz)⟩
theorem expoCs_sound : ∀ {vs : List Value} {xs ys : List C}, All2 (fun v c => RC Γ v c ∧ c.known = true) vs xs → expoCs xs = some ys → All2 (fun v c => RC Γ.calm v c) vs ys
  | vs, [], ys, h, hx => by simp only [expoCs, Option.some.injEq] at hx; subst hx; rw [h.nil_iff]; exact All2.nil
  | vs, x :: r, ys, h, hx => by
    simp only [expoCs, Option.bind_eq_some_iff, Option.map_eq_some_iff] at hx
    obtain ⟨c, hc, b, hb, rfl⟩ := hx
    obtain ⟨v, vs', rfl, h1, h2⟩ := h.uncons
    obtain ⟨k1, k2⟩ := cexpo_sound h1.1 hc
    exact All2.cons (RC.calm k1 k2) (expoCs_sound h2 hb)

theorem Inv.forCall {B : Nat} {s : St} {a : Act} (h : Inv Γ B s a) {vals : List Value} {args : List C} (ha : All2 (fun v c => RC Γ.calm v c) vals args) (ro : Bool) :
    Inv Γ.calm Γ.w.heap.size { sl := args.map .c, bx := [], tk := [], gl := s.gl, ro } { tmps := vals.toArray, defers := [] } := by
  refine ⟨rfl, by simp [ha.1], fun i v x hv hx => ?_, fun k => rfl, fun k => by simp [Ctx.calm, look], h.ng, fun k cs hk => by simp [look] at hk, fun k t hk => by simp [look] at hk, fun o cs ho => ?_, h.fix, h.ownlt, Nat.le_refl _, fun k p hk => by simp [look] at hk⟩
  · rw [List.getElem?_map, Option.map_eq_some_iff] at hx
    obtain ⟨c, hc, rfl⟩ := hx
    exact ha.2 i v c (by simpa using hv) hc
  · obtain ⟨vs, ty, e1, e3, e4, e5, e6⟩ := h.globs o cs ho
    exact ⟨vs, ty, e1, ⟨e3.1, fun i u b hu hb => RW.calm (e3.2 i u b hu hb) (e6 b (List.mem_of_getElem? hb))⟩, e4, e5, e6⟩
end
end Go.Proofs.Ytkklkkppedociaa.Ev
