/- Operations that turn something: variables made, stores, appends, calls. -/
import Derived.Test.YtckonoejmjblfaaGreatEvE
import Derived.Laws.AppendOwn
set_option linter.unusedVariables false
set_option linter.unusedSimpArgs false
namespace Go.Proofs.YtckonoejmjblfaaGreat.Ev
open Go Go.RowKit

/-- What a call whose blocks begin at B leaves as it was. -/
structure Step (ql : Prop) (B : Nat) (Γ Γ' : Ctx) : Prop where
  os : Γ'.w.os = Γ.w.os
  tape : Γ'.w.tape = Γ.w.tape
  output : Γ'.w.output = Γ.w.output
  size : Γ.w.heap.size ≤ Γ'.w.heap.size
  old : ∀ g, g < B → (∀ o, Γ.own g ≠ some (.glo o)) → Γ'.w.heap[g]? = Γ.w.heap[g]?
  F : ∀ a, Γ.F a → Γ'.F a ∧ Γ'.w.cell? a = Γ.w.cell? a
  Fnew : ∀ a, Γ'.F a → Γ.F a ∨ B ≤ a.block ∨ ∃ o, Γ.own a.block = some (.glo o)
  ng : Γ.ng ≤ Γ'.ng
  glb : ∀ o, o < Γ.ng → Γ'.glb o = Γ.glb o
  own : ∀ g, g < B → (∀ o, Γ.own g ≠ some (.glo o)) → Γ'.own g = Γ.own g
  drawn : ql → Γ.w.drawn ≤ Γ'.w.drawn
theorem Step.refl {ql : Prop} (B : Nat) (Γ : Ctx) : Step ql B Γ Γ := ⟨rfl, rfl, rfl, Nat.le_refl _, fun _ _ _ => rfl, fun _ h => ⟨h, rfl⟩, fun _ h => .inl h, Nat.le_refl _, fun _ _ => rfl, fun _ _ _ => rfl, fun _ => Nat.le_refl _⟩
theorem Step.trans {ql : Prop} {B : Nat} {Γ Γ' Γ'' : Ctx} (h : Step ql B Γ Γ') (k : Step ql B Γ' Γ'') : Step ql B Γ Γ'' := by
  refine ⟨k.os.trans h.os, k.tape.trans h.tape, k.output.trans h.output, Nat.le_trans h.size k.size, fun g hg ho => ?_, fun a ha => ?_, fun a ha => ?_, Nat.le_trans h.ng k.ng, fun o ho => ?_, fun g hg ho => (k.own g hg (fun o => by rw [h.own g hg ho]; exact ho o)).trans (h.own g hg ho), fun hq => Nat.le_trans (h.drawn hq) (k.drawn hq)⟩
  · exact (k.old g hg (fun o => by rw [h.own g hg ho]; exact ho o)).trans (h.old g hg ho)
  · obtain ⟨h1, h2⟩ := h.F a ha
    obtain ⟨h3, h4⟩ := k.F a h1
    exact ⟨h3, h4.trans h2⟩
  · rcases k.Fnew a ha with ha | ha | ⟨o, ha⟩
    · exact h.Fnew a ha
    · exact .inr (.inl ha)
    · by_cases hb : B ≤ a.block
      · exact .inr (.inl hb)
      · by_cases hno : ∀ o, Γ.own a.block ≠ some (.glo o)
        · rw [h.own _ (by omega) hno] at ha
          exact absurd ha (hno o)
        · obtain ⟨o', h1⟩ := Classical.not_forall.1 hno
          exact .inr (.inr ⟨o', Classical.not_not.1 h1⟩)
  · exact (k.glb o (Nat.lt_of_lt_of_le ho h.ng)).trans (h.glb o ho)
theorem Inv.step_of_grow {ql : Prop} {Γ Γ' : Ctx} {B : Nat} {s : St} {a : Act} (h : Inv Γ B s a) (g : Grow Γ Γ') : Step ql B Γ Γ' :=
  ⟨g.os, g.tape, g.output, g.size, fun b hb _ => g.block b (Nat.lt_of_lt_of_le hb h.base), (h.up_of_grow g).F, fun a ha => by
    rcases g.Fnew a ha with ha | ha
    · exact .inl ha
    · exact .inr (.inl (Nat.le_trans h.base ha.1)), by rw [g.ng]; exact Nat.le_refl _, fun _ _ => by rw [g.glb], fun _ _ _ => by rw [g.own], fun _ => g.drawn⟩

theorem Inv.step_of_grow0 {Γ Γ' : Ctx} {B : Nat} {s : St} {a : Act} (h : Inv Γ B s a) (g : Grow0 Γ Γ') : Step False B Γ Γ' :=
  ⟨g.os, g.tape, g.output, g.size, fun b hb _ => g.block b (Nat.lt_of_lt_of_le hb h.base), (h.up_of_grow0 g).F, fun a ha => by
    rcases g.Fnew a ha with ha | ha
    · exact .inl ha
    · exact .inr (.inl (Nat.le_trans h.base ha.1)), by rw [g.ng]; exact Nat.le_refl _, fun _ _ => by rw [g.glb], fun _ _ _ => by rw [g.own], fun h => h.elim⟩

theorem look_upd {α : Type} (l : List (Nat × α)) (i j : Nat) (y : α) : look (upd l i y) j = if i = j then some y else look l j := by
  induction l with
  | nil => simp only [upd, look]
  | cons p r ih =>
    obtain ⟨k, x⟩ := p
    simp only [upd]
    by_cases hk : k = i
    · subst hk
      simp only [if_true, look]
      by_cases hj : k = j <;> simp [hj]
    · simp only [if_neg hk, look, ih]
      by_cases hj : k = j
      · subst hj; simp [Ne.symm hk]
      · simp [hj]

theorem alloc_new (w : World) (o : Obj) : (w.alloc o).heap[w.heap.size]? = some o := by show (w.heap.push o)[w.heap.size]? = _; simp
section
variable {ql : Prop} {P : Program} {Γ : Ctx}

theorem Inv.put {B : Nat} {s : St} {a : Act} (h : Inv Γ B s a) (dst : Option Nat) {v : Value} {x : V} (hv : RV Γ v x) : Inv Γ B (s.put dst x) (a.put dst v) := by
  cases dst with
  | none => exact h
  | some t =>
    refine ⟨h.defers, by simp [Act.put, St.put, h.size], fun i u y hu hy => ?_, h.len, h.bl, h.ng, h.boxes, h.toks, h.globs, h.fix, h.ownlt, h.base, h.its⟩
    simp only [Act.put, St.put] at hu hy
    by_cases hit : t = i
    · subst hit
      have ht : t < s.sl.length := by have := (List.getElem?_eq_some_iff.1 hy).1; simpa using this
      rw [List.getElem?_set_self ht, Option.some.injEq] at hy
      rw [Array.getElem?_setIfInBounds_self_of_lt (by rw [h.size]; exact ht), Option.some.injEq] at hu
      subst hu
      subst hy
      exact hv
    · rw [List.getElem?_set_ne hit] at hy
      rw [Array.getElem?_setIfInBounds_ne hit] at hu
      exact h.slots i u y hu hy

/-- A variable of the call's own. -/
def Ctx.newBox (Γ : Ctx) (d : Nat) (o : Obj) : Ctx :=
  { Γ with w := Γ.w.alloc o, box := fun k => if k = d then Γ.w.heap.size else Γ.box k, bl := fun k => k = d ∨ Γ.bl k, own := fun g => if g = Γ.w.heap.size then some (.box d) else Γ.own g }
theorem Inv.newBox {B : Nat} {s : St} {a : Act} (h : Inv Γ B s a) (d : Nat) (hd : look s.bx d = none) (hd' : look s.it d = none) (vs : Array Value) (ty : TypeId) (ws : List W) (hv : All2 (RW Γ) vs.toList ws) (h1 : ∀ u ∈ vs.toList, u.oneCell' = true) :
    Step ql B Γ (Γ.newBox d (.cells vs ty (0, 0))) ∧ Inv (Γ.newBox d (.cells vs ty (0, 0))) B { s with bx := upd s.bx d ws } a ∧ RV (Γ.newBox d (.cells vs ty (0, 0))) (ptr Γ.w.heap.size 0) (.c (.w (.box d 0))) := by
  have hnb : ∀ k, Γ.bl k → k ≠ d := fun k hk e => by rw [h.bl, e, hd, hd'] at hk; simp at hk
  have hold : ∀ g, g < Γ.w.heap.size → (Γ.w.alloc (.cells vs ty (0, 0))).heap[g]? = Γ.w.heap[g]? := fun g hg => Below.heap_alloc _ _ g hg
  have hsz : (Γ.w.alloc (.cells vs ty (0, 0))).heap.size = Γ.w.heap.size + 1 := by show (Γ.w.heap.push _).size = _; simp
  have hF : ∀ a, Γ.F a → Γ.F a ∧ (Γ.w.alloc (.cells vs ty (0, 0))).cell? a = Γ.w.cell? a := fun a ha => ⟨ha, cell_of_block (hold _ (h.fix a ha).1)⟩
  have u : Up Γ (Γ.newBox d (.cells vs ty (0, 0))) :=
    ⟨hF, Nat.le_refl _, fun _ _ => rfl, fun k hk => ⟨.inr hk, by simp [Ctx.newBox, hnb k hk]⟩, fun k n hk => ⟨n, hk, .inl ⟨rfl, rfl⟩⟩⟩
  refine ⟨⟨rfl, rfl, rfl, by simp [Ctx.newBox], fun g hg _ => hold g (Nat.lt_of_lt_of_le hg h.base), hF, fun a ha => .inl ha, Nat.le_refl _, fun _ _ => rfl, fun g hg _ => ?_, fun _ => Nat.le_refl _⟩, ?_, ⟨by simp [Ctx.newBox, ptr], .inl rfl⟩⟩
  · have := h.base
    simp only [Ctx.newBox]
    rw [if_neg (by omega)]
  · refine ⟨h.defers.go fun D e _ => by
      have hlt := h.ownlt D (by simp [e])
      exact ⟨hold D hlt, by simp only [Ctx.newBox]; rw [if_neg (by omega)]; exact e⟩, h.size, fun i v x hv hx => (h.slots i v x hv hx).up u, h.len, fun k => ?_, h.ng, fun k cs hk => ?_, fun k t hk => ?_, fun o cs ho hne => ?_, fun a ha => ?_, fun g hg => ?_, by have := h.base; simp only [Ctx.newBox]; rw [hsz]; omega, fun k p hk => ?_⟩
    · simp only [Ctx.newBox, look_upd]
      by_cases hk : d = k
      · subst hk; simp
      · simp [hk, Ne.symm hk, h.bl]
    · simp only [look_upd] at hk
      by_cases hkd : d = k
      · subst hkd
        simp only [if_true, Option.some.injEq] at hk
        subst hk
        exact ⟨vs, ty, by simp only [Ctx.newBox, if_true]; exact alloc_new _ _, by simp only [Ctx.newBox, if_true]; exact h.base, hv.mono fun _ _ => RW.up u, by simp [Ctx.newBox], h1⟩
      · rw [if_neg hkd] at hk
        obtain ⟨us, ty', e1, e2, e3, e4, e5⟩ := h.boxes k cs hk
        have hlt := h.ownlt _ (by rw [e4]; simp)
        refine ⟨us, ty', ?_, ?_, e3.mono fun _ _ => RW.up u, ?_, e5⟩
        · simp only [Ctx.newBox, if_neg (Ne.symm hkd)]; rw [hold _ hlt]; exact e1
        · simp only [Ctx.newBox, if_neg (Ne.symm hkd)]; exact e2
        · simp only [Ctx.newBox, if_neg (Ne.symm hkd)]; rw [if_neg (by omega)]; exact e4
    · obtain ⟨b, cap, cur, e1, e2, e3, e4, e5, e6, e7, e8, e9⟩ := h.toks k t hk
      have hlt := h.ownlt _ (by rw [e7]; simp)
      exact ⟨b, cap, cur, e1, by simp only [Ctx.newBox]; rw [hold _ hlt]; exact e2, e3, e4, e5, e6, by simp only [Ctx.newBox]; rw [if_neg (by omega)]; exact e7, e8, e9⟩
    · obtain ⟨us, ty', e1, e3, e4, e5⟩ := h.globs o cs ho hne
      have hlt := h.ownlt _ (by rw [e4]; simp)
      have hlt' : (Γ.glb o).1 < Γ.w.heap.size := hlt
      exact ⟨us, ty', by simp only [Ctx.newBox, Ctx.glo]; rw [hold _ hlt]; exact e1, e3.mono fun _ _ => RW.up u, by simp only [Ctx.newBox, Ctx.glo]; rw [if_neg (by omega)]; exact e4, e5⟩
    · obtain ⟨e1, e2⟩ := h.fix a ha
      exact ⟨by simp only [Ctx.newBox]; rw [hsz]; omega, by simp only [Ctx.newBox]; rw [if_neg (by omega)]; exact e2⟩
    · simp only [Ctx.newBox] at hg ⊢
      rw [hsz]
      split at hg
      · omega
      · have := h.ownlt g hg; omega
    · have hkd : k ≠ d := by rintro rfl; rw [hd'] at hk; cases hk
      obtain ⟨e1, e2, e3, e4⟩ := h.its k p hk
      have hlt := h.ownlt _ (by rw [e3]; simp)
      refine ⟨?_, ?_, ?_, e4⟩
      · simp only [Ctx.newBox, if_neg hkd]; rw [hold _ hlt]; exact e1
      · simp only [Ctx.newBox, if_neg hkd]; exact e2
      · simp only [Ctx.newBox, if_neg hkd]; rw [if_neg (by omega)]; exact e3

/-- An iterator over a text. -/
theorem Inv.newIt {B : Nat} {s : St} {a : Act} (h : Inv Γ B s a) (d : Nat) (hd : look s.bx d = none) (hd' : look s.it d = none) (l : List UInt8) (hl : l.length ≤ maxLen) :
    Step ql B Γ (Γ.newBox d (.stringIter ⟨l.toArray⟩ 0)) ∧ Inv (Γ.newBox d (.stringIter ⟨l.toArray⟩ 0)) B { s with it := upd s.it d (l, 0) } a ∧ RV (Γ.newBox d (.stringIter ⟨l.toArray⟩ 0)) (ptr Γ.w.heap.size 0) (.c (.w (.box d 0))) := by
  have hnb : ∀ k, Γ.bl k → k ≠ d := fun k hk e => by rw [h.bl, e, hd, hd'] at hk; simp at hk
  have hold : ∀ g, g < Γ.w.heap.size → (Γ.w.alloc (.stringIter ⟨l.toArray⟩ 0)).heap[g]? = Γ.w.heap[g]? := fun g hg => Below.heap_alloc _ _ g hg
  have hsz : (Γ.w.alloc (.stringIter ⟨l.toArray⟩ 0)).heap.size = Γ.w.heap.size + 1 := by show (Γ.w.heap.push _).size = _; simp
  have hF : ∀ a, Γ.F a → Γ.F a ∧ (Γ.w.alloc (.stringIter ⟨l.toArray⟩ 0)).cell? a = Γ.w.cell? a := fun a ha => ⟨ha, cell_of_block (hold _ (h.fix a ha).1)⟩
  have u : Up Γ (Γ.newBox d (.stringIter ⟨l.toArray⟩ 0)) :=
    ⟨hF, Nat.le_refl _, fun _ _ => rfl, fun k hk => ⟨.inr hk, by simp [Ctx.newBox, hnb k hk]⟩, fun k n hk => ⟨n, hk, .inl ⟨rfl, rfl⟩⟩⟩
  refine ⟨⟨rfl, rfl, rfl, by simp [Ctx.newBox], fun g hg _ => hold g (Nat.lt_of_lt_of_le hg h.base), hF, fun a ha => .inl ha, Nat.le_refl _, fun _ _ => rfl, fun g hg _ => ?_, fun _ => Nat.le_refl _⟩, ?_, ⟨by simp [Ctx.newBox, ptr], .inl rfl⟩⟩
  · have := h.base
    simp only [Ctx.newBox]
    rw [if_neg (by omega)]
  · refine ⟨h.defers.go fun D e _ => by
      have hlt := h.ownlt D (by simp [e])
      exact ⟨hold D hlt, by simp only [Ctx.newBox]; rw [if_neg (by omega)]; exact e⟩, h.size, fun i v x hv hx => (h.slots i v x hv hx).up u, h.len, fun k => ?_, h.ng, fun k cs hk => ?_, fun k t hk => ?_, fun o cs ho hne => ?_, fun a ha => ?_, fun g hg => ?_, by have := h.base; simp only [Ctx.newBox]; rw [hsz]; omega, fun k p hk => ?_⟩
    · simp only [Ctx.newBox, look_upd]
      by_cases hk : d = k
      · subst hk; simp
      · simp [hk, Ne.symm hk, h.bl]
    · have hkd : k ≠ d := by rintro rfl; rw [hd] at hk; cases hk
      obtain ⟨us, ty', e1, e2, e3, e4, e5⟩ := h.boxes k cs hk
      have hlt := h.ownlt _ (by rw [e4]; simp)
      refine ⟨us, ty', ?_, ?_, e3.mono fun _ _ => RW.up u, ?_, e5⟩
      · simp only [Ctx.newBox, if_neg hkd]; rw [hold _ hlt]; exact e1
      · simp only [Ctx.newBox, if_neg hkd]; exact e2
      · simp only [Ctx.newBox, if_neg hkd]; rw [if_neg (by omega)]; exact e4
    · obtain ⟨b, cap, cur, e1, e2, e3, e4, e5, e6, e7, e8, e9⟩ := h.toks k t hk
      have hlt := h.ownlt _ (by rw [e7]; simp)
      exact ⟨b, cap, cur, e1, by simp only [Ctx.newBox]; rw [hold _ hlt]; exact e2, e3, e4, e5, e6, by simp only [Ctx.newBox]; rw [if_neg (by omega)]; exact e7, e8, e9⟩
    · obtain ⟨us, ty', e1, e3, e4, e5⟩ := h.globs o cs ho hne
      have hlt := h.ownlt _ (by rw [e4]; simp)
      have hlt' : (Γ.glb o).1 < Γ.w.heap.size := hlt
      exact ⟨us, ty', by simp only [Ctx.newBox, Ctx.glo]; rw [hold _ hlt]; exact e1, e3.mono fun _ _ => RW.up u, by simp only [Ctx.newBox, Ctx.glo]; rw [if_neg (by omega)]; exact e4, e5⟩
    · obtain ⟨e1, e2⟩ := h.fix a ha
      exact ⟨by simp only [Ctx.newBox]; rw [hsz]; omega, by simp only [Ctx.newBox]; rw [if_neg (by omega)]; exact e2⟩
    · simp only [Ctx.newBox] at hg ⊢
      rw [hsz]
      split at hg
      · omega
      · have := h.ownlt g hg; omega
    · simp only [look_upd] at hk
      by_cases hkd : d = k
      · subst hkd
        simp only [if_true, Option.some.injEq] at hk
        subst hk
        exact ⟨by simp only [Ctx.newBox, if_true]; exact alloc_new _ _, by simp only [Ctx.newBox, if_true]; exact h.base, by simp [Ctx.newBox], hl⟩
      · rw [if_neg hkd] at hk
        obtain ⟨e1, e2, e3, e4⟩ := h.its k p hk
        have hlt := h.ownlt _ (by rw [e3]; simp)
        refine ⟨?_, ?_, ?_, e4⟩
        · simp only [Ctx.newBox, if_neg (Ne.symm hkd)]; rw [hold _ hlt]; exact e1
        · simp only [Ctx.newBox, if_neg (Ne.symm hkd)]; exact e2
        · simp only [Ctx.newBox, if_neg (Ne.symm hkd)]; rw [if_neg (by omega)]; exact e3

/-- An object that calls share. -/
def Ctx.newGlo (Γ : Ctx) (w' : World) (n : Nat) : Ctx :=
  { Γ with w := w', glb := fun k => if k = Γ.ng then (Γ.w.heap.size, n) else Γ.glb k, ng := Γ.ng + 1, own := fun g => if g = Γ.w.heap.size then some (.glo Γ.ng) else Γ.own g }
theorem Inv.newGlo {B : Nat} {s : St} {a : Act} (h : Inv Γ B s a) {w' : World} (hos : w'.os = Γ.w.os) (hta : w'.tape = Γ.w.tape) (hou : w'.output = Γ.w.output) (hsz : w'.heap.size = Γ.w.heap.size + 1) (hold : ∀ g, g < Γ.w.heap.size → w'.heap[g]? = Γ.w.heap[g]?)
    (vs : Array Value) (ty : TypeId) (hnew : w'.heap[Γ.w.heap.size]? = some (.cells vs ty (0, 0))) (ws : List W) (hv : All2 (RW Γ) (vs.toList.take ws.length) ws) (h1 : ∀ u ∈ vs.toList, u.oneCell' = true) (hfree : ∀ c ∈ ws, W.free c = true) (hdr : Γ.w.drawn ≤ w'.drawn := by exact Nat.le_refl _) :
    Step ql B Γ (Γ.newGlo w' vs.size) ∧ Inv (Γ.newGlo w' vs.size) B { s with gl := s.gl ++ [ws] } a := by
  have hF : ∀ a, Γ.F a → Γ.F a ∧ w'.cell? a = Γ.w.cell? a := fun a ha => ⟨ha, cell_of_block (hold _ (h.fix a ha).1)⟩
  have hg : ∀ o, o < Γ.ng → (Γ.newGlo w' vs.size).glb o = Γ.glb o := fun o ho => by simp only [Ctx.newGlo]; rw [if_neg (by omega)]
  have u : Up Γ (Γ.newGlo w' vs.size) :=
    ⟨hF, by simp [Ctx.newGlo], hg, fun k hk => ⟨hk, rfl⟩, fun k n hk => ⟨n, hk, .inl ⟨rfl, rfl⟩⟩⟩
  refine ⟨⟨hos, hta, hou, by simp only [Ctx.newGlo]; omega, fun g hg _ => hold g (Nat.lt_of_lt_of_le hg h.base), hF, fun a ha => .inl ha, by simp [Ctx.newGlo], hg, fun g hg _ => ?_, fun _ => hdr⟩, ?_⟩
  · have := h.base
    simp only [Ctx.newGlo]
    rw [if_neg (by omega)]
  · refine ⟨h.defers.go fun D e _ => by
      have hlt := h.ownlt D (by simp [e])
      exact ⟨hold D hlt, by simp only [Ctx.newGlo]; rw [if_neg (by omega)]; exact e⟩, h.size, fun i v x hv hx => (h.slots i v x hv hx).up u, h.len, h.bl, by simp [Ctx.newGlo, h.ng], fun k cs hk => ?_, fun k t hk => ?_, fun o cs ho hne => ?_, fun a ha => ?_, fun g hg => ?_, by have := h.base; simp only [Ctx.newGlo]; rw [hsz]; omega, fun k p hk => by
    obtain ⟨e1, e2, e3, e4⟩ := h.its k p hk
    have hlt := h.ownlt _ (by rw [e3]; simp)
    exact ⟨by simp only [Ctx.newGlo]; rw [hold _ hlt]; exact e1, e2, by simp only [Ctx.newGlo]; rw [if_neg (by omega)]; exact e3, e4⟩⟩
    · obtain ⟨us, ty', e1, e2, e3, e4, e5⟩ := h.boxes k cs hk
      have hlt := h.ownlt _ (by rw [e4]; simp)
      exact ⟨us, ty', by simp only [Ctx.newGlo]; rw [hold _ hlt]; exact e1, e2, e3.mono fun _ _ => RW.up u, by simp only [Ctx.newGlo]; rw [if_neg (by omega)]; exact e4, e5⟩
    · obtain ⟨b, cap, cur, e1, e2, e3, e4, e5, e6, e7, e8, e9⟩ := h.toks k t hk
      have hlt := h.ownlt _ (by rw [e7]; simp)
      exact ⟨b, cap, cur, e1, by simp only [Ctx.newGlo]; rw [hold _ hlt]; exact e2, e3, e4, e5, e6, by simp only [Ctx.newGlo]; rw [if_neg (by omega)]; exact e7, e8, e9⟩
    · by_cases hol : o < s.gl.length
      · rw [List.getElem?_append_left hol] at ho
        obtain ⟨us, ty', e1, e3, e4, e5, e6, e7⟩ := h.globs o cs ho hne
        have hlt := h.ownlt _ (by rw [e4]; simp)
        have hgo : (Γ.newGlo w' vs.size).glo o = Γ.glo o := by rw [Ctx.glo, hg o (by rw [h.ng]; exact hol)]
        have hgz : (Γ.newGlo w' vs.size).gsz o = Γ.gsz o := by rw [Ctx.gsz, hg o (by rw [h.ng]; exact hol)]
        exact ⟨us, ty', by rw [hgo]; simp only [Ctx.newGlo]; rw [hold _ hlt]; exact e1, e3.mono fun _ _ => RW.up u, by rw [hgo]; simp only [Ctx.newGlo]; rw [if_neg (by omega)]; exact e4, e5, e6, by rw [hgz]; exact e7⟩
      · rw [List.getElem?_append_right (by omega)] at ho
        have h0 : o - s.gl.length = 0 := by
          have := (List.getElem?_eq_some_iff.1 ho).1
          simp at this
          omega
        rw [h0] at ho
        simp only [List.getElem?_cons_zero, Option.some.injEq] at ho
        subst ho
        have hoe : o = Γ.ng := by rw [h.ng]; omega
        subst hoe
        exact ⟨vs, ty, by simp only [Ctx.glo, Ctx.newGlo, if_true]; exact hnew, hv.mono fun _ _ => RW.up u, by simp [Ctx.glo, Ctx.newGlo], h1, hfree, by simp [Ctx.gsz, Ctx.newGlo]⟩
    · obtain ⟨e1, e2⟩ := h.fix a ha
      exact ⟨by simp only [Ctx.newGlo]; rw [hsz]; omega, by simp only [Ctx.newGlo]; rw [if_neg (by omega)]; exact e2⟩
    · simp only [Ctx.newGlo] at hg ⊢
      rw [hsz]
      split at hg
      · omega
      · have := h.ownlt g hg; omega
/-- Nobody looks at an object any more. -/
theorem Inv.dead {B : Nat} {s : St} {a : Act} (h : Inv Γ B s a) (o : Nat) : Inv Γ B { s with gl := s.gl.set o [] } a := by
  refine ⟨h.defers, h.size, h.slots, h.len, h.bl, by simp [h.ng], h.boxes, h.toks, fun j cs hj hne => ?_, h.fix, h.ownlt, h.base, h.its⟩
  by_cases hjo : o = j
  · subst hjo
    rw [List.getElem?_set_self (by have := (List.getElem?_eq_some_iff.1 hj).1; simpa using this)] at hj
    cases hj
    exact absurd rfl hne
  · rw [List.getElem?_set_ne hjo] at hj
    exact h.globs j cs hj hne

theorem expo_free {x y : W} (h : W.expo x = some y) : y.free = true := by
  unfold W.expo at h
  split at h <;> first | (cases h; rfl) | cases h
theorem expos_free : ∀ {xs ys : List W}, expos xs = some ys → ∀ c ∈ ys, W.free c = true
  | [], ys, h => by simp only [expos, Option.some.injEq] at h; subst h; simp
  | x :: r, ys, h => by
    simp only [expos, Option.bind_eq_some_iff, Option.map_eq_some_iff] at h
    obtain ⟨a, ha, b, hb, rfl⟩ := h
    simpa using ⟨expo_free ha, expos_free hb⟩
theorem expo_known {x y : W} (h : W.expo x = some y) : y.known = true := by
  unfold W.expo at h
  split at h <;> first | (cases h; rfl) | cases h
theorem expo_sound {v : Value} {x y : W} (h : RW Γ v x) (hx : W.expo x = some y) : RW Γ v y := by
  unfold W.expo at hx
  split at hx <;> first | (cases hx; exact h) | (cases hx; exact h.1) | cases hx
theorem expos_sound : ∀ {vs : List Value} {xs ys : List W}, All2 (RW Γ) vs xs → expos xs = some ys → All2 (RW Γ) vs ys
  | vs, [], ys, h, hx => by simp only [expos, Option.some.injEq] at hx; subst hx; rw [h.nil_iff]; exact All2.nil
  | vs, x :: r, ys, h, hx => by
    simp only [expos, Option.bind_eq_some_iff, Option.map_eq_some_iff] at hx
    obtain ⟨a, ha, b, hb, rfl⟩ := hx
    obtain ⟨v, vs', rfl, h1, h2⟩ := h.uncons
    exact All2.cons (expo_sound h1 ha) (expos_sound h2 hb)
theorem lodge_free {x y : W} (h : W.lodge x = some y) : y.free = true := by
  unfold W.lodge at h
  split at h
  · cases h; rfl
  · exact expo_free h
theorem lodges_free : ∀ {xs ys : List W}, lodges xs = some ys → ∀ c ∈ ys, W.free c = true
  | [], ys, h => by simp only [lodges, Option.some.injEq] at h; subst h; simp
  | x :: r, ys, h => by
    simp only [lodges, Option.bind_eq_some_iff, Option.map_eq_some_iff] at h
    obtain ⟨a, ha, b, hb, rfl⟩ := h
    simpa using ⟨lodge_free ha, lodges_free hb⟩
theorem lodge_sound {v : Value} {x y : W} (h : RW Γ v x) (hx : W.lodge x = some y) : RW Γ v y := by
  unfold W.lodge at hx
  split at hx
  · cases hx; exact h
  · exact expo_sound h hx
theorem lodges_sound : ∀ {vs : List Value} {xs ys : List W}, All2 (RW Γ) vs xs → lodges xs = some ys → All2 (RW Γ) vs ys
  | vs, [], ys, h, hx => by simp only [lodges, Option.some.injEq] at hx; subst hx; rw [h.nil_iff]; exact All2.nil
  | vs, x :: r, ys, h, hx => by
    simp only [lodges, Option.bind_eq_some_iff, Option.map_eq_some_iff] at hx
    obtain ⟨a, ha, b, hb, rfl⟩ := hx
    obtain ⟨v, vs', rfl, h1, h2⟩ := h.uncons
    exact All2.cons (lodge_sound h1 ha) (lodges_sound h2 hb)
end
end Go.Proofs.YtckonoejmjblfaaGreat.Ev
