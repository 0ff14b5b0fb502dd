/- Stores, calls; every operation. -/
import Derived.Test.YtckonoejmjblfaaGreatEvG
set_option linter.unusedVariables false
set_option linter.unusedSimpArgs false
namespace Go.Proofs.YtckonoejmjblfaaGreat.Ev
open Go Go.RowKit

section
variable {ql : Prop} {P : Program} {Γ : Ctx}

/-- A block of the call's own, or a shared one, is written. -/
def Ctx.setRow (Γ : Ctx) (g : Nat) (new : Array Value) : Ctx := { Γ with w := Γ.w.setRow g new }
theorem Inv.up_setRow {B : Nat} {s : St} {a : Act} (h : Inv Γ B s a) {g : Nat} {ow : Owner} (hown : Γ.own g = some ow) (hnt : ∀ k, ow ≠ .tok k) (new : Array Value) : Up Γ (Γ.setRow g new) := by
  refine ⟨fun ad had => ⟨had, cell_of_block (setRow_other _ _ _ _ ?_)⟩, Nat.le_refl _, fun _ _ => rfl, fun k hk => ⟨hk, rfl⟩, fun k n hk => ⟨n, hk, .inl ⟨rfl, rfl⟩⟩⟩
  rintro rfl
  rcases (h.fix ad had).2 with h1 | ⟨k, h1⟩
  · rw [hown] at h1; cases h1
  · rw [hown] at h1; cases h1; exact hnt k rfl
theorem Inv.setBox {B : Nat} {s : St} {a : Act} (h : Inv Γ B s a) {k : Nat} {cs cs' : List W} (hk : look s.bx k = some cs) {old new : Array Value} {ty : TypeId} (ho : Γ.w.heap[Γ.box k]? = some (.cells old ty (0, 0)))
    (hn : All2 (RW Γ) new.toList cs') (h1 : ∀ u ∈ new.toList, u.oneCell' = true) : Step ql B Γ (Γ.setRow (Γ.box k) new) ∧ Inv (Γ.setRow (Γ.box k) new) B { s with bx := upd s.bx k cs' } a := by
  obtain ⟨_, _, _, hB, _, hown, _⟩ := h.boxes k cs hk
  have u := h.up_setRow hown (by simp) new
  have hs : (Γ.w.setRow (Γ.box k) new).heap.size = Γ.w.heap.size := by simp [World.setRow]
  have hne : ∀ b ow, Γ.own b = some ow → ow ≠ .box k → b ≠ Γ.box k := by
    rintro b ow hb hk rfl
    rw [hown] at hb; cases hb; exact hk rfl
  refine ⟨⟨rfl, rfl, rfl, by show _ ≤ (Γ.w.setRow _ _).heap.size; omega, fun g hg _ => setRow_other _ _ _ _ (by omega), u.F, fun _ ha => .inl ha, Nat.le_refl _, fun _ _ => rfl, fun _ _ _ => rfl, fun _ => Nat.le_refl _⟩,
    h.defers.go fun D e _ => ⟨setRow_other _ _ _ _ (hne _ _ e (by simp)), e⟩, h.size, fun i v x hv hx => (h.slots i v x hv hx).up u, h.len, fun j => ?_, h.ng, fun j ds hj => ?_, fun j t hj => ?_, fun o ds hj hce => ?_, fun ad had => ?_, fun g hg => ?_, by show B ≤ (Γ.w.setRow _ _).heap.size; rw [hs]; exact h.base, fun j p hj => by
      obtain ⟨e1, e2, e3, e4⟩ := h.its j p hj
      exact ⟨(setRow_other _ _ _ _ (hne _ _ e3 (fun e => by cases e; rw [e1] at ho; cases ho))).trans e1, e2, e3, e4⟩⟩
  · simp only [look_upd]
    by_cases hkj : k = j
    · subst hkj; simp [Ctx.setRow, h.bl, hk]
    · simp [hkj, Ctx.setRow, h.bl]
  · rw [look_upd] at hj
    by_cases hkj : k = j
    · subst hkj
      simp only [if_true, Option.some.injEq] at hj
      subst hj
      exact ⟨new, ty, setRow_heap _ _ _ _ _ _ ho, hB, hn.mono fun _ _ => RW.up u, hown, h1⟩
    · rw [if_neg hkj] at hj
      obtain ⟨vs, ty', e1, e2, e3, e4, e5⟩ := h.boxes j ds hj
      exact ⟨vs, ty', (setRow_other _ _ _ _ (hne _ _ e4 (by simp [Ne.symm hkj]))).trans e1, e2, e3.mono fun _ _ => RW.up u, e4, e5⟩
  · obtain ⟨b, cap, cur, e1, e2, e3⟩ := h.toks j t hj
    exact ⟨b, cap, cur, e1, (setRow_other _ _ _ _ (hne _ _ e3.2.2.2.2.1 (by simp))).trans e2, e3⟩
  · obtain ⟨vs, ty', e1, e3, e4, e5, e6⟩ := h.globs o ds hj hce
    exact ⟨vs, ty', (setRow_other _ _ _ _ (hne _ _ e4 (by simp))).trans e1, e3.mono fun _ _ => RW.up u, e4, e5, e6⟩
  · obtain ⟨e1, e2⟩ := h.fix ad had
    exact ⟨by show _ < (Γ.w.setRow _ _).heap.size; rw [hs]; exact e1, e2⟩
  · show _ < (Γ.w.setRow _ _).heap.size
    rw [hs]
    exact h.ownlt g hg
/-- An iterator goes on. -/
def Ctx.setIt (Γ : Ctx) (g : Nat) (o : Obj) : Ctx := { Γ with w := { Γ.w with heap := Γ.w.heap.setIfInBounds g o } }
theorem Inv.stepIt {B : Nat} {s : St} {a : Act} (h : Inv Γ B s a) {k : Nat} {p : List UInt8 × Nat} (hk : look s.it k = some p) (q : Nat) :
    Step ql B Γ (Γ.setIt (Γ.box k) (.stringIter ⟨p.1.toArray⟩ q)) ∧ Inv (Γ.setIt (Γ.box k) (.stringIter ⟨p.1.toArray⟩ q)) B { s with it := upd s.it k (p.1, q) } a := by
  obtain ⟨ho, hB, hown, hl⟩ := h.its k p hk
  have hlt := h.ownlt _ (by rw [hown]; simp)
  have hother : ∀ b, b ≠ Γ.box k → (Γ.w.heap.setIfInBounds (Γ.box k) (.stringIter ⟨p.1.toArray⟩ q))[b]? = Γ.w.heap[b]? := fun b hb => Array.getElem?_setIfInBounds_ne (Ne.symm hb)
  have hself : (Γ.w.heap.setIfInBounds (Γ.box k) (.stringIter ⟨p.1.toArray⟩ q))[Γ.box k]? = some (.stringIter ⟨p.1.toArray⟩ q) := Array.getElem?_setIfInBounds_self_of_lt hlt
  have hs : (Γ.w.heap.setIfInBounds (Γ.box k) (.stringIter ⟨p.1.toArray⟩ q)).size = Γ.w.heap.size := by simp
  have u : Up Γ (Γ.setIt (Γ.box k) (.stringIter ⟨p.1.toArray⟩ q)) := by
    refine ⟨fun ad had => ⟨had, cell_of_block (hother _ ?_)⟩, Nat.le_refl _, fun _ _ => rfl, fun k hk => ⟨hk, rfl⟩, fun k n hk => ⟨n, hk, .inl ⟨rfl, rfl⟩⟩⟩
    intro e
    rcases (h.fix ad had).2 with h1 | ⟨j, h1⟩
    · rw [e, hown] at h1; cases h1
    · rw [e, hown] at h1; cases h1
  have hne : ∀ b ow, Γ.own b = some ow → ow ≠ .box k → b ≠ Γ.box k := by
    rintro b ow hb hk rfl
    rw [hown] at hb; cases hb; exact hk rfl
  refine ⟨⟨rfl, rfl, rfl, by show _ ≤ (Γ.w.heap.setIfInBounds _ _).size; omega, fun g hg _ => hother _ (by omega), u.F, fun _ ha => .inl ha, Nat.le_refl _, fun _ _ => rfl, fun _ _ _ => rfl, fun _ => Nat.le_refl _⟩,
    h.defers.go fun D e _ => ⟨hother _ (hne _ _ e (by simp)), e⟩, h.size, fun i v x hv hx => (h.slots i v x hv hx).up u, h.len, fun j => ?_, h.ng, fun j ds hj => ?_, fun j t hj => ?_, fun o ds hj hce => ?_, fun ad had => ?_, fun g hg => ?_, by show B ≤ (Γ.w.heap.setIfInBounds _ _).size; rw [hs]; exact h.base, fun j r hj => ?_⟩
  · simp only [look_upd]
    by_cases hkj : k = j
    · subst hkj; simp [Ctx.setIt, h.bl, hk]
    · simp [hkj, Ctx.setIt, h.bl]
  · obtain ⟨vs, ty', e1, e2, e3, e4, e5⟩ := h.boxes j ds hj
    exact ⟨vs, ty', (hother _ (hne _ _ e4 (fun e => by cases e; rw [e1] at ho; cases ho))).trans e1, e2, e3.mono fun _ _ => RW.up u, e4, e5⟩
  · obtain ⟨b, cap, cur, e1, e2, e3⟩ := h.toks j t hj
    exact ⟨b, cap, cur, e1, (hother _ (hne _ _ e3.2.2.2.2.1 (by simp))).trans e2, e3⟩
  · obtain ⟨vs, ty', e1, e3, e4, e5, e6⟩ := h.globs o ds hj hce
    exact ⟨vs, ty', (hother _ (hne _ _ e4 (by simp))).trans e1, e3.mono fun _ _ => RW.up u, e4, e5, e6⟩
  · obtain ⟨e1, e2⟩ := h.fix ad had
    exact ⟨by show _ < (Γ.w.heap.setIfInBounds _ _).size; rw [hs]; exact e1, e2⟩
  · show _ < (Γ.w.heap.setIfInBounds _ _).size
    rw [hs]
    exact h.ownlt g hg
  · rw [look_upd] at hj
    by_cases hkj : k = j
    · subst hkj
      simp only [if_true, Option.some.injEq] at hj
      subst hj
      exact ⟨hself, hB, hown, hl⟩
    · rw [if_neg hkj] at hj
      obtain ⟨e1, e2, e3, e4⟩ := h.its j r hj
      exact ⟨(hother _ (hne _ _ e3 (by simp [Ne.symm hkj]))).trans e1, e2, e3, e4⟩
theorem Inv.setGlo {B : Nat} {s : St} {a : Act} (h : Inv Γ B s a) {k : Nat} {cs cs' : List W} (hk : s.gl[k]? = some cs) (hce : cs ≠ []) {old new : Array Value} {ty : TypeId} (ho : Γ.w.heap[Γ.glo k]? = some (.cells old ty (0, 0)))
    (hnz : new.size = old.size) (hn : All2 (RW Γ) (new.toList.take cs'.length) cs') (h1 : ∀ u ∈ new.toList, u.oneCell' = true) (hf : ∀ c ∈ cs', W.free c = true) : Step ql B Γ (Γ.setRow (Γ.glo k) new) ∧ Inv (Γ.setRow (Γ.glo k) new) B { s with gl := s.gl.set k cs' } a := by
  obtain ⟨old', _, ho', _, hown, _, _, hgz⟩ := h.globs k cs hk hce
  rw [ho] at ho'
  cases ho'
  have hkl : k < s.gl.length := (List.getElem?_eq_some_iff.1 hk).1
  have u := h.up_setRow hown (by simp) new
  have hs : (Γ.w.setRow (Γ.glo k) new).heap.size = Γ.w.heap.size := by simp [World.setRow]
  have hne : ∀ b ow, Γ.own b = some ow → ow ≠ .glo k → b ≠ Γ.glo k := by
    rintro b ow hb hk rfl
    rw [hown] at hb; cases hb; exact hk rfl
  refine ⟨⟨rfl, rfl, rfl, by show _ ≤ (Γ.w.setRow _ _).heap.size; omega, fun g hg hno => setRow_other _ _ _ _ (fun e => hno k (e ▸ hown)), u.F, fun _ ha => .inl ha, Nat.le_refl _, fun _ _ => rfl, fun _ _ _ => rfl, fun _ => Nat.le_refl _⟩,
    h.defers.go fun D e _ => ⟨setRow_other _ _ _ _ (hne _ _ e (by simp)), e⟩, h.size, fun i v x hv hx => (h.slots i v x hv hx).up u, h.len, h.bl, by simp [Ctx.setRow, h.ng], fun j ds hj => ?_, fun j t hj => ?_, fun o ds hj hce => ?_, fun ad had => ?_, fun g hg => ?_, by show B ≤ (Γ.w.setRow _ _).heap.size; rw [hs]; exact h.base, fun j p hj => by
      obtain ⟨e1, e2, e3, e4⟩ := h.its j p hj
      exact ⟨(setRow_other _ _ _ _ (hne _ _ e3 (by simp))).trans e1, e2, e3, e4⟩⟩
  · obtain ⟨vs, ty', e1, e2, e3, e4, e5⟩ := h.boxes j ds hj
    exact ⟨vs, ty', (setRow_other _ _ _ _ (hne _ _ e4 (by simp))).trans e1, e2, e3.mono fun _ _ => RW.up u, e4, e5⟩
  · obtain ⟨b, cap, cur, e1, e2, e3⟩ := h.toks j t hj
    exact ⟨b, cap, cur, e1, (setRow_other _ _ _ _ (hne _ _ e3.2.2.2.2.1 (by simp))).trans e2, e3⟩
  · by_cases hko : k = o
    · subst hko
      rw [List.getElem?_set_self hkl, Option.some.injEq] at hj
      subst hj
      exact ⟨new, ty, setRow_heap _ _ _ _ _ _ ho, hn.mono fun _ _ => RW.up u, hown, h1, hf, hnz.trans hgz⟩
    · rw [List.getElem?_set_ne hko] at hj
      obtain ⟨vs, ty', e1, e3, e4, e5, e6⟩ := h.globs o ds hj hce
      exact ⟨vs, ty', (setRow_other _ _ _ _ (hne _ _ e4 (by simp [Ne.symm hko]))).trans e1, e3.mono fun _ _ => RW.up u, e4, e5, e6⟩
  · obtain ⟨e1, e2⟩ := h.fix ad had
    exact ⟨by show _ < (Γ.w.setRow _ _).heap.size; rw [hs]; exact e1, e2⟩
  · show _ < (Γ.w.setRow _ _).heap.size
    rw [hs]
    exact h.ownlt g hg

/-- An object's block goes on as another object's. -/
def Ctx.regrow (Γ : Ctx) (o : Nat) (new : Array Value) : Ctx :=
  { Γ with w := Γ.w.setRow (Γ.glo o) new, glb := fun k => if k = Γ.ng then Γ.glb o else Γ.glb k, ng := Γ.ng + 1, own := fun g => if g = Γ.glo o then some (.glo Γ.ng) else Γ.own g }
theorem Inv.regrow {B : Nat} {s : St} {a : Act} (h : Inv Γ B s a) {o : Nat} {cs cs' : List W} (hk : s.gl[o]? = some cs) (hce : cs ≠ []) {old new : Array Value} {ty : TypeId} (ho : Γ.w.heap[Γ.glo o]? = some (.cells old ty (0, 0)))
    (hnz : new.size = old.size) (hn : All2 (RW Γ) (new.toList.take cs'.length) cs') (h1 : ∀ u ∈ new.toList, u.oneCell' = true) (hf : ∀ c ∈ cs', W.free c = true) :
    Step ql B Γ (Γ.regrow o new) ∧ Inv (Γ.regrow o new) B { s with gl := s.gl.set o [] ++ [cs'] } a := by
  obtain ⟨old', _, ho', _, hown, _, _, hgz⟩ := h.globs o cs hk hce
  rw [ho] at ho'
  cases ho'
  have hkl : o < s.gl.length := (List.getElem?_eq_some_iff.1 hk).1
  have hs : (Γ.w.setRow (Γ.glo o) new).heap.size = Γ.w.heap.size := by simp [World.setRow]
  have hne : ∀ b ow, Γ.own b = some ow → ow ≠ .glo o → b ≠ Γ.glo o := by
    rintro b ow hb hk rfl
    rw [hown] at hb; cases hb; exact hk rfl
  have hF : ∀ ad, Γ.F ad → Γ.F ad ∧ (Γ.w.setRow (Γ.glo o) new).cell? ad = Γ.w.cell? ad := by
    refine fun ad had => ⟨had, cell_of_block (setRow_other _ _ _ _ ?_)⟩
    intro e
    rcases (h.fix ad had).2 with h1 | ⟨k, h1⟩
    · rw [e, hown] at h1; cases h1
    · rw [e, hown] at h1; cases h1
  have hg : ∀ j, j < Γ.ng → (Γ.regrow o new).glb j = Γ.glb j := fun j hj => by simp only [Ctx.regrow]; rw [if_neg (by omega)]
  have u : Up Γ (Γ.regrow o new) := ⟨hF, by simp [Ctx.regrow], hg, fun k hk => ⟨hk, rfl⟩, fun k n hk => ⟨n, hk, .inl ⟨rfl, rfl⟩⟩⟩
  have hown' : ∀ b ow, Γ.own b = some ow → ow ≠ .glo o → (Γ.regrow o new).own b = some ow := fun b ow hb hk => by
    simp only [Ctx.regrow]
    rw [if_neg (hne b ow hb hk)]
    exact hb
  refine ⟨⟨rfl, rfl, rfl, by show _ ≤ (Γ.w.setRow _ _).heap.size; omega, fun g hg hno => setRow_other _ _ _ _ (fun e => hno o (e ▸ hown)), hF, fun _ ha => .inl ha, by simp [Ctx.regrow], hg, fun g hg hno => ?_, fun _ => Nat.le_refl _⟩,
    h.defers.go fun D e _ => ⟨setRow_other _ _ _ _ (hne _ _ e (by simp)), hown' _ _ e (by simp)⟩, h.size, fun i v x hv hx => (h.slots i v x hv hx).up u, h.len, h.bl, by simp [Ctx.regrow, h.ng], fun j ds hj => ?_, fun j t hj => ?_, fun j ds hj hce' => ?_, fun ad had => ?_, fun g hg => ?_, by show B ≤ (Γ.w.setRow _ _).heap.size; rw [hs]; exact h.base, fun j p hj => by
      obtain ⟨e1, e2, e3, e4⟩ := h.its j p hj
      exact ⟨(setRow_other _ _ _ _ (hne _ _ e3 (by simp))).trans e1, e2, hown' _ _ e3 (by simp), e4⟩⟩
  · simp only [Ctx.regrow]
    rw [if_neg (fun e : g = Γ.glo o => hno o (e ▸ hown))]
  · obtain ⟨vs, ty', e1, e2, e3, e4, e5⟩ := h.boxes j ds hj
    exact ⟨vs, ty', (setRow_other _ _ _ _ (hne _ _ e4 (by simp))).trans e1, e2, e3.mono fun _ _ => RW.up u, hown' _ _ e4 (by simp), e5⟩
  · obtain ⟨b, cap, cur, e1, e2, e3⟩ := h.toks j t hj
    exact ⟨b, cap, cur, e1, (setRow_other _ _ _ _ (hne _ _ e3.2.2.2.2.1 (by simp))).trans e2, e3.1, e3.2.1, e3.2.2.1, e3.2.2.2.1, hown' _ _ e3.2.2.2.2.1 (by simp), e3.2.2.2.2.2⟩
  · by_cases hjl : j < s.gl.length
    · rw [List.getElem?_append_left (by simpa using hjl)] at hj
      by_cases hoj : o = j
      · subst hoj
        rw [List.getElem?_set_self hkl] at hj
        cases hj
        exact absurd rfl hce'
      · rw [List.getElem?_set_ne hoj] at hj
        obtain ⟨vs, ty', e1, e3, e4, e5, e6, e7⟩ := h.globs j ds hj hce'
        have hgj : (Γ.regrow o new).glo j = Γ.glo j := by rw [Ctx.glo, hg j (by rw [h.ng]; exact hjl)]
        have hgz' : (Γ.regrow o new).gsz j = Γ.gsz j := by rw [Ctx.gsz, hg j (by rw [h.ng]; exact hjl)]
        exact ⟨vs, ty', by rw [hgj]; exact (setRow_other _ _ _ _ (hne _ _ e4 (by simp [Ne.symm hoj]))).trans e1, e3.mono fun _ _ => RW.up u, by rw [hgj]; exact hown' _ _ e4 (by simp [Ne.symm hoj]), e5, e6, by rw [hgz']; exact e7⟩
    · rw [List.getElem?_append_right (by simp; omega)] at hj
      have h0 : j - (s.gl.set o []).length = 0 := by
        have := (List.getElem?_eq_some_iff.1 hj).1
        simp at this ⊢
        omega
      rw [h0] at hj
      simp only [List.getElem?_cons_zero, Option.some.injEq] at hj
      subst hj
      have hje : j = Γ.ng := by rw [h.ng]; simp at h0; omega
      subst hje
      have hgj : (Γ.regrow o new).glb Γ.ng = Γ.glb o := by simp [Ctx.regrow]
      exact ⟨new, ty, by rw [Ctx.glo, hgj]; exact setRow_heap _ _ _ _ _ _ ho, hn.mono fun _ _ => RW.up u, by rw [Ctx.glo, hgj]; simp [Ctx.regrow], h1, hf, by rw [Ctx.gsz, hgj]; exact hnz.trans hgz⟩
  · obtain ⟨e1, e2⟩ := h.fix ad had
    refine ⟨by show _ < (Γ.w.setRow _ _).heap.size; rw [hs]; exact e1, ?_⟩
    rcases e2 with e2 | ⟨k, e2⟩
    · refine .inl ?_
      simp only [Ctx.regrow]
      rw [if_neg]
      · exact e2
      · intro e; rw [e, hown] at e2; cases e2
    · exact .inr ⟨k, hown' _ _ e2 (by simp)⟩
  · show _ < (Γ.w.setRow _ _).heap.size
    rw [hs]
    by_cases hgo : g = Γ.glo o
    · exact h.ownlt g (by rw [hgo, hown]; simp)
    · simp only [Ctx.regrow] at hg
      rw [if_neg hgo] at hg
      exact h.ownlt g hg

theorem take_mid {α : Type} (l u : List α) (o L : Nat) (h : o + u.length ≤ L) (hL : L ≤ l.length) : (l.take o ++ u ++ l.drop (o + u.length)).take L = (l.take L).take o ++ u ++ (l.take L).drop (o + u.length) := by
  rw [List.take_append, List.take_of_length_le (by simp; omega), List.take_take, Nat.min_eq_left (by omega), List.drop_take]
  congr 2
  simp
  omega
theorem paste_take {old us : List Value} {cs cs' new : List W} {off : Nat} (ha : All2 (RW Γ) (old.take cs.length) cs) (hu : All2 (RW Γ) us new) (hp : paste cs off new = some cs') :
    All2 (RW Γ) ((old.take off ++ us ++ old.drop (off + us.length)).take cs'.length) cs' ∧ off + us.length ≤ old.length := by
  obtain ⟨h1, h2, h3⟩ := paste_spec hp
  have hl : us.length = new.length := hu.1
  have hle : cs.length ≤ old.length := by have := ha.1; simp at this; omega
  have e : (old.take off ++ us ++ old.drop (off + us.length)).take cs'.length = (old.take cs.length).take off ++ us ++ (old.take cs.length).drop (off + us.length) := by
    rw [h3, take_mid _ _ _ _ (by omega) hle]
  refine ⟨by rw [e]; exact ha.paste hu hp, by omega⟩
/-- Cells are written to an object. -/
theorem writeGlo {B : Nat} {s : St} {a : Act} (hI : Inv Γ B s a) {o off : Nat} {cs cs' new : List W} {us : List Value} (hcs : s.gl[o]? = some cs) (hu : All2 (RW Γ) us new) (h1 : ∀ u ∈ us, u.oneCell' = true) (hf : ∀ c ∈ new, W.free c = true) (hp : paste cs off new = some cs') :
    ∃ Γ', (storeCells ⟨Γ.glo o, off, none⟩ us).run P Γ.w = .ok () Γ'.w ∧ Step ql B Γ Γ' ∧ Inv Γ' B { s with gl := s.gl.set o cs' } a := by
  obtain ⟨p1, p2, p3⟩ := paste_spec hp
  by_cases hn : new = []
  · subst hn
    have : us = [] := hu.nil_iff
    subst this
    have hcc : cs' = cs := by rw [p2]; simp
    subst hcc
    refine ⟨Γ, rfl, Step.refl _ _, ?_⟩
    rw [show s.gl.set o cs' = s.gl from ?_]
    · exact hI
    · apply List.ext_getElem?
      intro j
      by_cases hoj : o = j
      · subst hoj; rw [List.getElem?_set_self (List.getElem?_eq_some_iff.1 hcs).1, hcs]
      · rw [List.getElem?_set_ne hoj]
  · have hce : cs ≠ [] := by
      rintro rfl
      have : 0 < new.length := List.length_pos_iff.2 hn
      have h0 : ([] : List W).length = 0 := rfl
      omega
    obtain ⟨old, ty, e1, e3, e4, e5, e6, e7⟩ := hI.globs o cs hcs hce
    obtain ⟨q1, q2⟩ := paste_take e3 hu hp
    have hr := run_storeCells_at P (Γ.glo o) off ty us 0 old Γ.w e1 (by simpa using q2) h1
    simp only [Nat.add_zero] at hr
    have ho1 : ∀ u ∈ ((old.toList.take off ++ us ++ old.toList.drop (off + us.length)).toArray).toList, u.oneCell' = true := by
      intro u hu'
      simp only [List.mem_append] at hu'
      rcases hu' with (hu' | hu') | hu'
      · exact e5 u (List.mem_of_mem_take hu')
      · exact h1 u hu'
      · exact e5 u (List.mem_of_mem_drop hu')
    have ho2 : ∀ c ∈ cs', W.free c = true := by
      intro c hc
      rw [p2] at hc
      simp only [List.mem_append] at hc
      rcases hc with (hc | hc) | hc
      · exact e6 c (List.mem_of_mem_take hc)
      · exact hf c hc
      · exact e6 c (List.mem_of_mem_drop hc)
    obtain ⟨k1, k2⟩ := hI.setGlo (ql := ql) hcs hce e1 (new := (old.toList.take off ++ us ++ old.toList.drop (off + us.length)).toArray) (by simp at q2 ⊢; omega) q1 ho1 ho2
    exact ⟨_, hr, k1, k2⟩

theorem store_sound {B : Nat} {s s' : St} {a : Act} (hI : Inv Γ B s a) {p v : Value} {x : W} {c : C} {t : TypeId} {n : Nat} (hp : RW Γ p x) (hc : RC Γ v c) (hk : c.known = true) (hn : szOf P t = some n) (hl : c.cells.length = n) (h : s.storeW x c.cells = some s') :
    ∃ Γ', (Instr.storeAt t p v).run P Γ.w = .ok () Γ'.w ∧ Step ql B Γ Γ' ∧ Inv Γ' B s' a := by
  obtain ⟨hcell, hone⟩ := hc.cells hk
  have hvs : v.cells.size = n := by have := hcell.1; simp at this; omega
  have run : ∀ (g off : Nat) (old : Array Value) (ty : TypeId), Γ.w.heap[g]? = some (.cells old ty (0, 0)) → off + v.cells.size ≤ old.size →
      (Instr.storeAt t (ptr g off) v).run P Γ.w = .ok () (Γ.w.setRow g (old.toList.take off ++ v.cells.toList ++ old.toList.drop (off + v.cells.toList.length)).toArray) := by
    intro g off old ty hg hle
    have := run_storeCells_at P g off ty v.cells.toList 0 old Γ.w hg (by simp; omega) hone
    simp only [Nat.add_zero] at this
    simp only [Instr.storeAt, ptr, Instr.sureAddr, Sem.run_bind, Sem.run_pure, Result.andThen_ok, storeVar, run_szOf hn]
    rw [if_neg (by omega)]
    exact this
  have hone2 : ∀ (old : Array Value) (off : Nat), (∀ u ∈ old.toList, u.oneCell' = true) → ∀ u ∈ (old.toList.take off ++ v.cells.toList ++ old.toList.drop (off + v.cells.toList.length)).toArray.toList, u.oneCell' = true := by
    intro old off ho u hu
    simp only [List.mem_append] at hu
    rcases hu with (hu | hu) | hu
    · exact ho u (List.mem_of_mem_take hu)
    · exact hone u hu
    · exact ho u (List.mem_of_mem_drop hu)
  unfold St.storeW at h
  split at h
  · rename_i k off
    simp only [Option.bind_eq_some_iff, Option.map_eq_some_iff] at h
    obtain ⟨cs, hcs, cs', hp', rfl⟩ := h
    obtain ⟨old, ty, e1, e2, e3, e4, e5⟩ := hI.boxes k cs hcs
    obtain ⟨rfl, _⟩ := hp
    have hle : off + v.cells.size ≤ old.size := by
      obtain ⟨q, _, _⟩ := paste_spec hp'
      have := e3.1
      simp at this
      omega
    exact ⟨_, run _ off old ty e1 hle, hI.setBox hcs e1 (e3.paste hcell hp') (hone2 old off e5)⟩
  · rename_i o off
    split at h
    · cases h
    · simp only [Option.bind_eq_some_iff, Option.map_eq_some_iff] at h
      obtain ⟨cs, hcs, new', hnew, cs', hp', rfl⟩ := h
      obtain ⟨rfl, _⟩ := hp
      obtain ⟨Γ', hr, k1, k2⟩ := writeGlo (ql := ql) (P := P) hI hcs (expos_sound hcell hnew) hone (expos_free hnew) hp'
      refine ⟨Γ', ?_, k1, k2⟩
      simp only [Instr.storeAt, ptr, Instr.sureAddr, Sem.run_bind, Sem.run_pure, Result.andThen_ok, storeVar, run_szOf hn]
      rw [if_neg (by omega)]
      exact hr
  · cases h

/-! calls -/
/-- What lies before a callee. -/
def Ctx.calm (Γ : Ctx) : Ctx := { Γ with bl := fun _ => False, len := fun _ => none }
theorem RW.calm {v : Value} {x : W} (h : RW Γ v x) (hf : x.free = true) : RW Γ.calm v x := by
  cases x <;> simp only [W.free, reduceCtorEq, Bool.false_eq_true] at hf <;> exact h
/-- The caller's view behind a call. -/
def Ctx.back (Γ Γ' : Ctx) : Ctx := { Γ' with box := Γ.box, bl := Γ.bl, tok := Γ.tok, len := Γ.len }
theorem RW.back {Γ' : Ctx} {v : Value} {x : W} (h : RW Γ' v x) (hb : ∀ k, ¬ Γ'.bl k) (hl : ∀ k, Γ'.len k = none) : RW (Γ.back Γ') v x := by
  cases x <;> try exact h
  · obtain ⟨_, n, h2, _⟩ := h
    rw [hl] at h2
    cases h2
  · exact absurd h.2 (hb _)
  · obtain ⟨_, _, _, _, _, h3⟩ := h
    exact absurd h3 (hb _)
theorem RC.back {Γ' : Ctx} {v : Value} {x : C} (h : RC Γ' v x) (hb : ∀ k, ¬ Γ'.bl k) (hl : ∀ k, Γ'.len k = none) : RC (Γ.back Γ') v x := by
  cases x with
  | w x => exact RW.back h hb hl
  | agg xs => obtain ⟨cs, rfl, h1, h2⟩ := h; exact ⟨cs, rfl, h1.mono fun _ _ k => RW.back k hb hl, h2⟩
theorem RV.back {Γ' : Ctx} {v : Value} {x : V} (h : RV Γ' v x) (hb : ∀ k, ¬ Γ'.bl k) (hl : ∀ k, Γ'.len k = none) : RV (Γ.back Γ') v x := by
  cases x with
  | c x => exact RC.back h hb hl
  | tup xs => obtain ⟨cs, rfl, h1⟩ := h; exact ⟨cs, rfl, h1.mono fun _ _ k => RC.back k hb hl⟩

/-- What a function must be for a call to enter it. -/
def Enters (P : Program) (f : Nat) : Prop := ∃ fn, P.funcs[f]? = some fn ∧ (fn.name == "runtime.NumGoroutine") = false ∧ fn.body.isNone = false
/-- A call that is entered. -/
def Entered (P : Program) (ql : Prop) (f : Nat) (args : List C) (ro : Nat) (gl : List (List W)) (r : V × List (List W)) : Prop :=
  Enters P f ∧ ∀ (Γ : Ctx) (vals : List Value), Inv Γ Γ.w.heap.size { sl := args.map .c, bx := [], tk := [], gl, ro } { tmps := vals.toArray, defers := [] } →
    Calls P f vals.toArray Γ.w fun e w' => ∃ (Γ' : Ctx) (v : Value), e = .returned v ∧ Γ'.w = w' ∧ Step ql Γ.w.heap.size Γ Γ' ∧ Inv Γ' Γ.w.heap.size { sl := [r.1], bx := [], tk := [], gl := r.2, ro } { tmps := #[v], defers := [] }
/-- A call of a function without a body. -/
def Native (P : Program) (f : Nat) (args : List C) (ro : Nat) (gl : List (List W)) (r : V × List (List W)) : Prop :=
  ∀ (Γ : Ctx) (vals : List Value), Inv Γ Γ.w.heap.size { sl := args.map .c, bx := [], tk := [], gl, ro } { tmps := vals.toArray, defers := [] } →
    ∃ v, (callFunc f vals.toArray).run P Γ.w = .ok (.value v) Γ.w ∧ Inv Γ Γ.w.heap.size { sl := [r.1], bx := [], tk := [], gl := r.2, ro } { tmps := #[v], defers := [] }
/-- A callee's contract, in the evaluator's words. -/
def Sound (P : Program) (ql : Prop) (call : Caller) : Prop :=
  ∀ f args ro gl r, call f args ro gl = some r → (Entered P ql f args ro gl r ∨ Native P f args ro gl r) ∧ (ro ≤ gl.length → r.2.take ro = gl.take ro ∧ ro ≤ r.2.length)

theorem Inv.back {B : Nat} {s : St} {a : Act} (h : Inv Γ B s a) {Γ' : Ctx} {gl : List (List W)} {x : V} {v : Value} {ro : Nat} (st : Step ql Γ.w.heap.size Γ.calm Γ') (h' : Inv Γ' Γ.w.heap.size { sl := [x], bx := [], tk := [], gl, ro } { tmps := #[v], defers := [] }) :
    Step ql B Γ (Γ.back Γ') ∧ Inv (Γ.back Γ') B { s with gl := gl } a ∧ RV (Γ.back Γ') v x := by
  have hb : ∀ k, ¬ Γ'.bl k := fun k hk => by rw [h'.bl] at hk; simp [look] at hk
  have hl : ∀ k, Γ'.len k = none := fun k => by rw [h'.len]; rfl
  have u : Up Γ (Γ.back Γ') := ⟨st.F, st.ng, st.glb, fun k hk => ⟨hk, rfl⟩, fun k n hk => ⟨n, hk, .inl ⟨rfl, rfl⟩⟩⟩
  have hst : Step ql B Γ (Γ.back Γ') := ⟨st.os, st.tape, st.output, st.size, fun g hg ho => st.old g (Nat.lt_of_lt_of_le hg h.base) ho, st.F, fun a ha => by
    rcases st.Fnew a ha with ha | ha | ha
    · exact .inl ha
    · exact .inr (.inl (Nat.le_trans h.base ha))
    · exact .inr (.inr ha), st.ng, st.glb, fun g hg ho => st.own g (Nat.lt_of_lt_of_le hg h.base) ho, st.drawn⟩
  have hblk : ∀ b ow, Γ.own b = some ow → (∀ o, ow ≠ .glo o) → Γ'.w.heap[b]? = Γ.w.heap[b]? ∧ Γ'.own b = some ow := fun b ow hb ho => by
    have hlt := h.ownlt b (by rw [hb]; simp)
    have hno : ∀ o, Γ.calm.own b ≠ some (.glo o) := fun o e => by
      have e' : Γ.own b = some (.glo o) := e
      rw [hb] at e'; cases e'; exact ho o rfl
    exact ⟨st.old b hlt hno, (st.own b hlt hno).trans hb⟩
  refine ⟨hst, ⟨h.defers.go fun D e _ => hblk _ _ e (by simp), h.size, fun i v x hv hx => (h.slots i v x hv hx).up u, h.len, h.bl, h'.ng, fun k cs hk => ?_, fun k t hk => ?_, fun o cs ho hce => ?_, h'.fix, h'.ownlt, Nat.le_trans h.base st.size, fun k p hk => by
    obtain ⟨e1, e2, e3, e4⟩ := h.its k p hk
    obtain ⟨q1, q2⟩ := hblk _ _ e3 (by simp)
    exact ⟨q1.trans e1, e2, q2, e4⟩⟩, RV.back (h'.slots 0 v x rfl rfl) hb hl⟩
  · obtain ⟨vs, ty, e1, e2, e3, e4, e5⟩ := h.boxes k cs hk
    obtain ⟨q1, q2⟩ := hblk _ _ e4 (by simp)
    exact ⟨vs, ty, q1.trans e1, e2, e3.mono fun _ _ => RW.up u, q2, e5⟩
  · obtain ⟨b, cap, cur, e1, e2, e3, e4, e5, e6, e7, e8, e9⟩ := h.toks k t hk
    obtain ⟨q1, q2⟩ := hblk _ _ e7 (by simp)
    have hlt := h.ownlt b (by rw [e7]; simp)
    refine ⟨b, cap, cur, e1, q1.trans e2, e3, e4, e5, e6, q2, e8, fun a ha hb' => ?_⟩
    rcases st.Fnew a ha with ha | ha | ⟨o, ha⟩
    · exact e9 a ha hb'
    · omega
    · have ha' : Γ.own a.block = some (.glo o) := ha
      rw [hb', e7] at ha'
      cases ha'
  · obtain ⟨vs, ty, e1, e3, e4⟩ := h'.globs o cs ho hce
    exact ⟨vs, ty, e1, e3.mono fun _ _ k => RW.back k hb hl, e4⟩

theorem comps_sound : ∀ {vs : List Value} {xs : List V} {cs : List C}, All2 (RV Γ) vs xs → comps xs = some cs → All2 (fun v c => RC Γ v c ∧ c.known = true) vs cs
  | vs, [], cs, h, hx => by simp only [comps, Option.some.injEq] at hx; subst hx; rw [h.nil_iff]; exact All2.nil
  | vs, x :: r, cs, h, hx => by
    simp only [comps, Option.bind_eq_some_iff, Option.map_eq_some_iff] at hx
    obtain ⟨c, hc, b, hb, rfl⟩ := hx
    obtain ⟨v, vs', rfl, h1, h2⟩ := h.uncons
    exact All2.cons (comp_sound h1 hc) (comps_sound h2 hb)
def C.free : C → Bool
  | .w x => x.free
  | .agg xs => xs.all W.free
theorem RC.calm {v : Value} {x : C} (h : RC Γ v x) (hf : x.free = true) : RC Γ.calm v x := by
  cases x with
  | w x => exact RW.calm h hf
  | agg xs =>
    obtain ⟨cs, rfl, h1, h2⟩ := h
    exact ⟨cs, rfl, ⟨h1.1, fun i a b ha hb => RW.calm (h1.2 i a b ha hb) (List.all_eq_true.1 hf b (List.mem_of_getElem? hb))⟩, h2⟩
theorem cexpo_sound {v : Value} {x y : C} (h : RC Γ v x) (hx : C.expo x = some y) : RC Γ v y ∧ y.free = true := by
  cases x with
  | w x =>
    simp only [C.expo, Option.map_eq_some_iff] at hx
    obtain ⟨z, hz, rfl⟩ := hx
    exact ⟨expo_sound h hz, expo_free hz⟩
  | agg xs =>
    simp only [C.expo, Option.map_eq_some_iff] at hx
    obtain ⟨z, hz, rfl⟩ := hx
    obtain ⟨cs, rfl, h1, h2⟩ := h
    exact ⟨⟨cs, rfl, expos_sound h1 hz, h2⟩, List.all_eq_true.2 (expos_free hz)⟩
theorem expoCs_sound : ∀ {vs : List Value} {xs ys : List C}, All2 (fun v c => RC Γ v c ∧ c.known = true) vs xs → expoCs xs = some ys → All2 (fun v c => RC Γ.calm v c) vs ys
  | vs, [], ys, h, hx => by simp only [expoCs, Option.some.injEq] at hx; subst hx; rw [h.nil_iff]; exact All2.nil
  | vs, x :: r, ys, h, hx => by
    simp only [expoCs, Option.bind_eq_some_iff, Option.map_eq_some_iff] at hx
    obtain ⟨c, hc, b, hb, rfl⟩ := hx
    obtain ⟨v, vs', rfl, h1, h2⟩ := h.uncons
    obtain ⟨k1, k2⟩ := cexpo_sound h1.1 hc
    exact All2.cons (RC.calm k1 k2) (expoCs_sound h2 hb)

theorem expoFs_sound : ∀ {vs : List Value} {xs ys : List C}, All2 (fun v c => RC Γ v c ∧ c.known = true) vs xs → expoFs xs = some ys → All2 (fun v c => RC Γ.calm v c) vs ys
  | vs, [], ys, h, hx => by simp only [expoFs, Option.some.injEq] at hx; subst hx; rw [h.nil_iff]; exact All2.nil
  | vs, x :: r, ys, h, hx => by
    simp only [expoFs, Option.bind_eq_some_iff, Option.map_eq_some_iff] at hx
    obtain ⟨c, hc, b, hb, rfl⟩ := hx
    obtain ⟨v, vs', rfl, h1, h2⟩ := h.uncons
    unfold C.expoF at hc
    split at hc
    · cases hc
      exact All2.cons (RC.calm h1.1 rfl) (expoFs_sound h2 hb)
    · obtain ⟨k1, k2⟩ := cexpo_sound h1.1 hc
      exact All2.cons (RC.calm k1 k2) (expoFs_sound h2 hb)
theorem Inv.forCall {B : Nat} {s : St} {a : Act} (h : Inv Γ B s a) {vals : List Value} {args : List C} (ha : All2 (fun v c => RC Γ.calm v c) vals args) (ro : Nat) :
    Inv Γ.calm Γ.w.heap.size { sl := args.map .c, bx := [], tk := [], gl := s.gl, ro } { tmps := vals.toArray, defers := [] } := by
  refine ⟨Marks.nil, by simp [ha.1], fun i v x hv hx => ?_, fun k => rfl, fun k => by simp [Ctx.calm, look], h.ng, fun k cs hk => by simp [look] at hk, fun k t hk => by simp [look] at hk, fun o cs ho hce => ?_, h.fix, h.ownlt, Nat.le_refl _, fun k p hk => by simp [look] at hk⟩
  · rw [List.getElem?_map, Option.map_eq_some_iff] at hx
    obtain ⟨c, hc, rfl⟩ := hx
    exact ha.2 i v c (by simpa using hv) hc
  · obtain ⟨vs, ty, e1, e3, e4, e5, e6⟩ := h.globs o cs ho hce
    exact ⟨vs, ty, e1, ⟨e3.1, fun i u b hu hb => RW.calm (e3.2 i u b hu hb) (e6.1 b (List.mem_of_getElem? hb))⟩, e4, e5, e6⟩
end
end Go.Proofs.YtckonoejmjblfaaGreat.Ev
