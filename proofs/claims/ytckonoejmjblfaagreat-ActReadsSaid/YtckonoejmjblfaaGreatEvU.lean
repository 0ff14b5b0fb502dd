/- A loop over a function: its rounds are calls. -/
import Derived.Test.YtckonoejmjblfaaGreatEvJ
import Derived.RangeFuncRecord
import Derived.RangeFuncNested
set_option linter.unusedVariables false
set_option linter.unusedSimpArgs false
namespace Go.Proofs.YtckonoejmjblfaaGreat.Ev
open Go Go.RowKit

/-- What was fixed then, in a later memory. -/
def Ctx.seen (Γ : Ctx) (M : World) : Ctx := { F := Γ.F, w := M, box := fun _ => 0, bl := fun _ => False, tok := fun _ => undef, len := fun _ => none, glb := fun _ => (0, 0), ng := 0, own := fun _ => none }
/-- What an iterator, a function that has captured the cells cs, hands to yield; m values at a time. -/
def IterC (P : Program) (f : Nat) (cs : List W) (m : Nat) (ys : List (List C)) : Prop :=
  Enters P f ∧ (∀ y ∈ ys, y.length = m) ∧ ∀ (Γ : Ctx) (g l : Nat) (vs : Array Value) (ty : TypeId), All2 (RW Γ) (vs.toList.take cs.length) cs → (∀ u ∈ vs.toList, u.oneCell' = true) → (∀ a, Γ.F a → a.block < Γ.w.heap.size) →
    ∀ (J : Nat → World → Prop) (Jx : World → Prop),
      (∀ k W, J k W → Γ.w.heap.size ≤ W.heap.size ∧ W.heap[g]? = some (.cells vs ty (0, 0)) ∧ ∀ a, Γ.F a → W.cell? a = Γ.w.cell? a) →
      (∀ k W W', J k W → Below W.heap.size W W' → W.drawn ≤ W'.drawn → J k W') → (∀ W W', Jx W → Below W.heap.size W W' → W.drawn ≤ W'.drawn → Jx W') →
      (∀ k y (args : List Value) W, ys[k]? = some y → All2 (RC (Γ.seen W)) args y → J k W → YieldAt (Fr none) 0 P l args.toArray W fun e W' => (e = .returned (.bool true) ∧ J (k + 1) W') ∨ (e = .returned (.bool false) ∧ Jx W')) →
      ∀ W, J 0 W → CallsIn (Fr none) 0 P f #[.func (.yield l) #[] #[], ptr g 0] W fun e W' => (∃ v, e = .returned v) ∧ (J ys.length W' ∨ Jx W')
def Base (P : Program) (cfg : Cfg) : Prop := P.follows .mixedOrders = true ∧ ∀ f cs m ys, cfg.iter f cs = some (m, ys) → IterC P f cs m ys

def exitOf : Ex → Exit
  | .normal => .normal
  | .exit id => .exit id
  | .ret => .ret
def codeOf : Ex → Option Code
  | .normal => none
  | .exit id => some (.exit id)
  | .ret => some .ret

section
variable {ql : Prop} {P : Program}
theorem Step.mono {B B' : Nat} {Γ Γ' : Ctx} (h : Step ql B' Γ Γ') (hB : B ≤ B') : Step ql B Γ Γ' :=
  ⟨h.os, h.tape, h.output, h.size, fun g hg => h.old g (by omega), h.F, fun a ha => by
    rcases h.Fnew a ha with ha | ha | ha
    · exact .inl ha
    · exact .inr (.inl (by omega))
    · exact .inr (.inr ha), h.ng, h.glb, fun g hg => h.own g (by omega), h.drawn⟩
theorem Step.to_calm {B : Nat} {Γ Γ' : Ctx} (h : Step ql B Γ Γ') : Step ql B Γ Γ'.calm := ⟨h.os, h.tape, h.output, h.size, h.old, h.F, h.Fnew, h.ng, h.glb, h.own, h.drawn⟩
theorem Step.up_calm {B : Nat} {Γ Γ' : Ctx} (h : Step ql B Γ.calm Γ') : Up Γ.calm Γ' := ⟨h.F, h.ng, h.glb, fun k hk => hk.elim, fun k n hk => by cases hk⟩

/-- The record of a loop over a function turns. -/
theorem Inv.setMark {Γ : Ctx} {B B0 : Nat} {s : St} {a : Act} (h : Inv Γ B s a) {l : Nat} (hd : a.defers = [] ∨ l < B) (hl : B0 ≤ l) (how : Γ.own l = some .mark) (o : Obj) : Step ql B0 Γ { Γ with w := Γ.w.putObj l o } ∧ Inv { Γ with w := Γ.w.putObj l o } B s a := by
  have hlt := h.ownlt l (by simp [how])
  have hother : ∀ b, b ≠ l → (Γ.w.putObj l o).heap[b]? = Γ.w.heap[b]? := fun b hb => World.putObj_heap_other hb
  have hs : (Γ.w.putObj l o).heap.size = Γ.w.heap.size := by simp [World.putObj]
  have u : Up Γ { Γ with w := Γ.w.putObj l o } := by
    refine ⟨fun ad had => ⟨had, cell_of_block (hother _ ?_)⟩, Nat.le_refl _, fun _ _ => rfl, fun k hk => ⟨hk, rfl⟩, fun k n hk => ⟨n, hk, .inl ⟨rfl, rfl⟩⟩⟩
    intro e
    rcases (h.fix ad had).2 with h1 | ⟨j, h1⟩
    · rw [e, how] at h1; cases h1
    · rw [e, how] at h1; cases h1
  have hne : ∀ b ow, Γ.own b = some ow → ow ≠ .mark → b ≠ l := by
    rintro b ow hb hk rfl
    rw [how] at hb; cases hb; exact hk rfl
  refine ⟨⟨rfl, rfl, rfl, Nat.le_of_eq hs.symm, fun g hg _ => hother _ (by omega), u.F, fun _ ha => .inl ha, Nat.le_refl _, fun _ _ => rfl, fun _ _ _ => rfl, fun _ => Nat.le_refl _⟩,
    ?_, h.size, fun i v x hv hx => (h.slots i v x hv hx).up u, h.len, h.bl, h.ng, fun j ds hj => ?_, fun j t hj => ?_, fun o ds hj hce => ?_, fun ad had => ?_, fun g hg => ?_, by show B ≤ (Γ.w.putObj l o).heap.size; rw [hs]; exact h.base, fun j r hj => ?_⟩
  · rcases hd with hd | hd
    · rw [hd]; exact Marks.nil
    · obtain ⟨ds, h1, h0, h2⟩ := h.defers
      refine ⟨ds, h1, h0, fun D hD => ?_⟩
      obtain ⟨e1, e2, e3⟩ := h2 D hD
      exact ⟨(hother D (by omega)).trans e1, e2, e3⟩
  · obtain ⟨vs, ty', e1, e2, e3, e4, e5⟩ := h.boxes j ds hj
    exact ⟨vs, ty', (hother _ (hne _ _ e4 (by simp))).trans e1, e2, e3.mono fun _ _ => RW.up u, e4, e5⟩
  · obtain ⟨b, cap, cur, e1, e2, e3⟩ := h.toks j t hj
    exact ⟨b, cap, cur, e1, (hother _ (hne _ _ e3.2.2.2.2.1 (by simp))).trans e2, e3⟩
  · obtain ⟨vs, ty', e1, e3, e4, e5, e6⟩ := h.globs o ds hj hce
    exact ⟨vs, ty', (hother _ (hne _ _ e4 (by simp))).trans e1, e3.mono fun _ _ => RW.up u, e4, e5, e6⟩
  · obtain ⟨e1, e2⟩ := h.fix ad had
    exact ⟨by show _ < (Γ.w.putObj l _).heap.size; rw [hs]; exact e1, e2⟩
  · show _ < (Γ.w.putObj l _).heap.size
    rw [hs]
    exact h.ownlt g hg
  · obtain ⟨e1, e2, e3, e4⟩ := h.its j r hj
    exact ⟨(hother _ (hne _ _ e3 (by simp))).trans e1, e2, e3, e4⟩

/-- A frame that holds nothing of its own. -/
abbrev bare (gl : List (List W)) (ro : Nat) : St := { sl := [V.un], bx := [], tk := [], gl, ro }
abbrev bareA : Act := { tmps := #[undef], defers := [] }
theorem Inv.leave {Γ : Ctx} {B N : Nat} {s : St} {a : Act} (h : Inv Γ B s a) (hN : N ≤ B) (ro : Nat) : Inv Γ.calm N (bare s.gl ro) bareA := by
  refine ⟨Marks.nil, rfl, fun i v x hv hx => ?_, fun _ => rfl, fun k => by simp [Ctx.calm, look], h.ng, fun k cs hk => by simp [look] at hk, fun k t hk => by simp [look] at hk, fun o cs ho hce => ?_, h.fix, h.ownlt, Nat.le_trans hN h.base, fun k p hk => by simp [look] at hk⟩
  · have hi : i = 0 := by
      have := (List.getElem?_eq_some_iff.1 hx).1
      simpa using this
    subst hi
    simp only [List.getElem?_cons_zero, Option.some.injEq] at hx
    subst hx
    trivial
  · obtain ⟨vs, ty, e1, e3, e4, e5, e6⟩ := h.globs o cs ho hce
    exact ⟨vs, ty, e1, ⟨e3.1, fun i u b hu hb => RW.calm (e3.2 i u b hu hb) (e6.1 b (List.mem_of_getElem? hb))⟩, e4, e5, e6⟩

theorem calmed_sound {Γ : Ctx} {v : Value} {x : V} (h : RV Γ v x) : RV Γ.calm v x.calmed := by
  unfold V.calmed
  split
  · split
    · exact RC.calm (x := .w _) h (by assumption)
    · trivial
  · split
    · exact RC.calm (x := .agg _) h (by assumption)
    · trivial
  · trivial
theorem setPs_sound {Γ : Ctx} : ∀ (ps : List Nat) (y : List C) (args : List Value) (tmps : Array Value) (sl : List V), All2 (RC Γ) args y → y.length = ps.length → tmps.size = sl.length → (∀ (i : Nat) v x, tmps[i]? = some v → sl[i]? = some x → RV Γ v x) →
    let t := (ps.zip args).foldl (fun t (p, v) => t.setIfInBounds p v) tmps
    t.size = (setPs ps y sl).length ∧ ∀ (i : Nat) v x, t[i]? = some v → (setPs ps y sl)[i]? = some x → RV Γ v x
  | [], y, args, tmps, sl, ha, hl, hs, h => by
    obtain rfl : y = [] := List.eq_nil_of_length_eq_zero (by simpa using hl)
    obtain rfl : args = [] := ha.nil_iff
    exact ⟨hs, h⟩
  | p :: ps, [], args, tmps, sl, ha, hl, hs, h => by simp at hl
  | p :: ps, c :: y, args, tmps, sl, ha, hl, hs, h => by
    obtain ⟨v, args, rfl, h1, h2⟩ := ha.uncons
    simp only [List.zip_cons_cons, List.foldl_cons, setPs]
    refine setPs_sound ps y args (tmps.setIfInBounds p v) (sl.set p (.c c)) h2 (by simpa using hl) (by simp [hs]) fun i u x hu hx => ?_
    by_cases hip : p = i
    · subst hip
      have ht : p < sl.length := by have := (List.getElem?_eq_some_iff.1 hx).1; simpa using this
      rw [List.getElem?_set_self ht, Option.some.injEq] at hx
      rw [Array.getElem?_setIfInBounds_self_of_lt (by rw [hs]; exact ht), Option.some.injEq] at hu
      subst hu
      subst hx
      exact h1
    · rw [List.getElem?_set_ne hip] at hx
      rw [Array.getElem?_setIfInBounds_ne hip] at hu
      exact h i u x hu hx

/-- The memory at the entry of a loop over a function. -/
def Ctx.enterR (Γ : Ctx) (o : Nat) (r : Loop) : Ctx :=
  { Γ.calm with w := (Γ.w.alloc (.deferred (some []))).alloc (.loop r), own := fun b => if b = Γ.w.heap.size ∨ b = Γ.w.heap.size + 1 ∨ b = Γ.glo o then some .mark else Γ.own b }
theorem Inv.enterR {Γ : Ctx} {B : Nat} {s : St} {a : Act} (h : Inv Γ B s a) {o : Nat} {cs : List W} (ho : s.gl[o]? = some cs) (hcs : cs ≠ []) (r : Loop) (ro : Nat) :
    Step ql Γ.w.heap.size Γ.calm (Γ.enterR o r) ∧ Inv (Γ.enterR o r) Γ.w.heap.size (bare (s.gl.set o []) ro) bareA := by
  obtain ⟨vs, ty, e1, e2, e3, e4, e5, e6⟩ := h.globs o cs ho hcs
  have hsz : ((Γ.w.alloc (.deferred (some []))).alloc (.loop r)).heap.size = Γ.w.heap.size + 2 := by simp [World.size_alloc]
  have hold : ∀ g, g < Γ.w.heap.size → ((Γ.w.alloc (.deferred (some []))).alloc (.loop r)).heap[g]? = Γ.w.heap[g]? := fun g hg => by
    rw [Below.heap_alloc _ _ g (by rw [World.size_alloc]; omega), Below.heap_alloc _ _ g hg]
  have hglt := h.ownlt (Γ.glo o) (by simp [e3])
  have hF : ∀ a, Γ.F a → Γ.F a ∧ ((Γ.w.alloc (.deferred (some []))).alloc (.loop r)).cell? a = Γ.w.cell? a := fun a ha => ⟨ha, cell_of_block (hold _ (h.fix a ha).1)⟩
  have hown : ∀ b ow, Γ.own b = some ow → ow ≠ .glo o → (Γ.enterR o r).own b = some ow := fun b ow hb hk => by
    have hlt := h.ownlt b (by rw [hb]; simp)
    simp only [Ctx.enterR]
    rw [if_neg]
    · exact hb
    · rintro (h1 | h1 | h1)
      · omega
      · omega
      · rw [h1, e3] at hb; cases hb; exact hk rfl
  refine ⟨⟨rfl, rfl, rfl, by show _ ≤ ((Γ.w.alloc _).alloc _).heap.size; rw [hsz]; exact Nat.le_add_right _ _, fun g hg _ => hold g hg, hF, fun _ ha => .inl ha, Nat.le_refl _, fun _ _ => rfl, fun g hg hno => ?_, fun _ => Nat.le_refl _⟩, ?_⟩
  · simp only [Ctx.enterR]
    rw [if_neg]
    · rfl
    · rintro (h1 | h1 | h1)
      · omega
      · omega
      · exact hno o (by rw [h1]; exact e3)
  · refine ⟨Marks.nil, rfl, fun i v x hv hx => ?_, fun _ => rfl, fun k => by simp [Ctx.enterR, Ctx.calm, look], by simp [Ctx.enterR, Ctx.calm, h.ng], fun k cs hk => by simp [look] at hk, fun k t hk => by simp [look] at hk, fun j ds hj hne => ?_, fun ad had => ?_, fun g hg => ?_, by show _ ≤ ((Γ.w.alloc _).alloc _).heap.size; rw [hsz]; exact Nat.le_add_right _ _, fun k p hk => by simp [look] at hk⟩
    · have hi : i = 0 := by
        have := (List.getElem?_eq_some_iff.1 hx).1
        simpa using this
      subst hi
      simp only [List.getElem?_cons_zero, Option.some.injEq] at hx
      subst hx
      trivial
    · have hjo : o ≠ j := by
        rintro rfl
        rw [List.getElem?_set_self (List.getElem?_eq_some_iff.1 ho).1] at hj
        cases hj
        exact hne rfl
      rw [List.getElem?_set_ne hjo] at hj
      obtain ⟨us, ty', f1, f2, f3, f4, f5, f6⟩ := h.globs j ds hj hne
      have hlt := h.ownlt _ (by rw [f3]; simp)
      refine ⟨us, ty', (hold _ hlt).trans f1, ⟨f2.1, fun i u b hu hb => ?_⟩, hown _ _ f3 (by simp [Ne.symm hjo]), f4, f5, f6⟩
      have u1 : Up Γ.calm (Γ.enterR o r) := ⟨hF, Nat.le_refl _, fun _ _ => rfl, fun k hk => hk.elim, fun k n hk => by cases hk⟩
      exact (RW.calm (f2.2 i u b hu hb) (f5 b (List.mem_of_getElem? hb))).up u1
    · obtain ⟨f1, f2⟩ := h.fix ad had
      refine ⟨by show _ < ((Γ.w.alloc _).alloc _).heap.size; rw [hsz]; omega, ?_⟩
      rcases f2 with f2 | ⟨k, f2⟩
      · refine .inl ?_
        simp only [Ctx.enterR]
        rw [if_neg]
        · exact f2
        · rintro (h1 | h1 | h1)
          · omega
          · omega
          · rw [h1, e3] at f2; cases f2
      · exact .inr ⟨k, hown _ _ f2 (by simp)⟩
    · show _ < ((Γ.w.alloc _).alloc _).heap.size
      rw [hsz]
      simp only [Ctx.enterR] at hg
      split at hg
      · rename_i h1
        rcases h1 with h1 | h1 | h1 <;> omega
      · have := h.ownlt g hg
        omega

theorem markD_inj {ds ds' : List Nat} (h : ds.map markD = ds'.map markD) : ds = ds' := by
  induction ds generalizing ds' with
  | nil => cases ds' with
    | nil => rfl
    | cons b r => simp at h
  | cons a r ih => cases ds' with
    | nil => simp at h
    | cons b r' =>
      simp only [List.map_cons, List.cons.injEq] at h
      obtain ⟨h1, h2⟩ := h
      have : a = b := by simpa [markD] using h1
      rw [this, ih h2]

/-- A loop over a function. -/
theorem range_sound {Γ : Ctx} {B : Nat} {s : St} {a : Act} (hI : Inv Γ B s a) {g : Operand} {ps : Array Tmp} {assign body : Code} {f o : Nat} {cs : List W} {ys : List (List C)} (hg : s.ev g = some (.c (.w (.fn f [o])))) (ho : s.gl[o]? = some cs) (hcs : cs ≠ [])
    (hit : IterC P f cs ps.size ys) {evA evB : St → Option (Ex × St)}
    (ha : ∀ {l B : Nat} {Γ : Ctx} {s : St} {r : Ex × St} {a : Act}, Inv Γ B s a → evA s = some r → ∀ {Q : Exit → Act → World → Prop}, (∀ Γ' a', Step ql B Γ Γ' → Inv Γ' B r.2 a' → Q (exitOf r.1) a' Γ'.w) → assign.wpIn (Fr (some l)) 0 P Q a Γ.w)
    (hb : ∀ {l B : Nat} {Γ : Ctx} {s : St} {r : Ex × St} {a : Act}, Inv Γ B s a → evB s = some r → ∀ {Q : Exit → Act → World → Prop}, (∀ Γ' a', Step ql B Γ Γ' → Inv Γ' B r.2 a' → Q (exitOf r.1) a' Γ'.w) → body.wpIn (Fr (some l)) 0 P Q a Γ.w)
    {e : Ex} {gl' : List (List W)} (h : rangeA (roundA evA evB ps.toList s) ys (s.gl.set o []) = some (e, gl'))
    {Q : Exit → Act → World → Prop} (hQ : ∀ Γ' a', Step ql B Γ Γ' → Inv Γ' B { s with gl := gl' } a' → Q (exitOf e) a' Γ'.w) : (Code.rangeFunc g ps assign body).wpIn (Fr none) 0 P Q a Γ.w := by
  obtain ⟨⟨fnf, hfn, hname, hbody⟩, hm, hit⟩ := hit
  obtain ⟨vs, ty, e1, e2, e3, e4, e5, e6⟩ := hI.globs o cs ho hcs
  obtain ⟨hf, hcap⟩ := ev_sound hI hg
  have hog : o < Γ.ng := hcap o (by simp)
  have hglt := hI.ownlt (Γ.glo o) (by simp [e3])
  refine wpIn_rangeFunc ?_
  intro fn _
  rw [show (Fr none).round = none from rfl]
  obtain ⟨rec, hrec⟩ : ∃ rec : LoopState → Option Code → Loop, rec = fun st pe => { state := st, pending := pe, fn, tmps := a.tmps, params := ps, assign, body, defers := Γ.w.heap.size } := ⟨_, rfl⟩
  obtain ⟨q1, q2⟩ := hI.enterR (ql := ql) ho hcs (rec .ready none) s.ro
  have hw1 : (Γ.enterR o (rec .ready none)).w = (Γ.w.alloc (.deferred (some []))).alloc (.loop (rec .ready none)) := rfl
  have hL1 : (Γ.enterR o (rec .ready none)).w.heap[Γ.w.heap.size + 1]? = some (.loop (rec .ready none)) := by
    rw [hw1]; have := World.alloc_heap_new (Γ.w.alloc (.deferred (some []))) (.loop (rec .ready none)); rwa [World.size_alloc] at this
  have hK1 : (Γ.enterR o (rec .ready none)).w.heap[Γ.w.heap.size]? = some (.deferred (some [])) := by
    rw [hw1]; exact (Below.heap_alloc _ _ _ (by simp)).trans (World.alloc_heap_new Γ.w _)
  have hG1 : (Γ.enterR o (rec .ready none)).w.heap[Γ.glo o]? = some (.cells vs ty (0, 0)) := by
    rw [hw1, Below.heap_alloc _ _ _ (by rw [World.size_alloc]; omega), Below.heap_alloc _ _ _ hglt]; exact e1
  refine ⟨Γ.w.heap.size + 1, [{ target := .collected Γ.w.heap.size, args := #[] }], (Γ.enterR o (rec .ready none)).w, { target := .fn (.func f) #[ptr (Γ.glo o) 0], args := #[.func (.yield (Γ.w.heap.size + 1)) #[] #[]] }, (Γ.enterR o (rec .ready none)).w, f,
    #[.func (.yield (Γ.w.heap.size + 1)) #[] #[], ptr (Γ.glo o) 0], (Γ.enterR o (rec .ready none)).w, ?_, ?_, fun _ _ => trivial, ?_, fun h => (by cases h), ?_⟩
  · rw [hw1, hrec]; exact run_enterLoop_outer _ _ _ _ _
  · simp only [resolve, hf]
    simp [go_sem]
  · simp only [invoke, callFunc, Sem.run_bind, run_program, Result.andThen_ok, hfn]
    rw [if_neg (by simp [hname]), if_neg (by simp [hbody])]
    simp
  · -- the iterator
    let J : Nat → World → Prop := fun k M => ∃ (Γ' : Ctx) (gl : List (List W)), Γ'.w = M ∧ Step ql Γ.w.heap.size Γ.calm Γ' ∧ Inv Γ' Γ.w.heap.size (bare gl s.ro) bareA ∧ rangeA (roundA evA evB ps.toList s) (ys.drop k) gl = some (e, gl') ∧
      M.heap[Γ.w.heap.size + 1]? = some (.loop (rec .ready none)) ∧ M.heap[Γ.w.heap.size]? = some (.deferred (some [])) ∧ M.heap[Γ.glo o]? = some (.cells vs ty (0, 0)) ∧
      Γ'.own Γ.w.heap.size = some .mark ∧ Γ'.own (Γ.w.heap.size + 1) = some .mark ∧ Γ'.own (Γ.glo o) = some .mark
    let Jx : World → Prop := fun M => ∃ (Γ' : Ctx) (c : Code), Γ'.w = M ∧ Step ql Γ.w.heap.size Γ.calm Γ' ∧ Inv Γ' Γ.w.heap.size (bare gl' s.ro) bareA ∧ codeOf e = some c ∧
      M.heap[Γ.w.heap.size + 1]? = some (.loop (rec .done (some c))) ∧ M.heap[Γ.w.heap.size]? = some (.deferred (some [])) ∧ Γ'.own Γ.w.heap.size = some .mark ∧ Γ'.own (Γ.w.heap.size + 1) = some .mark
    have later : ∀ {Γ' : Ctx} {gl : List (List W)} {M' : World}, Inv Γ' Γ.w.heap.size (bare gl s.ro) bareA → Below Γ'.w.heap.size Γ'.w M' → Γ'.w.drawn ≤ M'.drawn → Step ql Γ.w.heap.size Γ' { Γ' with w := M' } ∧ Inv { Γ' with w := M' } Γ.w.heap.size (bare gl s.ro) bareA := by
      intro Γ' gl M' h1 h2 h3
      have g : Grow Γ' { Γ' with w := M' } := ⟨rfl, rfl, rfl, rfl, rfl, rfl, rfl, h2.os, h2.tape, h2.output, h2.size, h2.block, fun _ h => h, fun _ h => .inl h, h3⟩
      exact ⟨h1.step_of_grow g, h1.grow g⟩
    have fin : ∀ {Γ3 : Ctx} {gl : List (List W)} (jump : Option Code), Step ql Γ.w.heap.size Γ.calm Γ3 → Inv Γ3 Γ.w.heap.size (bare gl s.ro) bareA → Γ3.own Γ.w.heap.size = some .mark → Γ3.own (Γ.w.heap.size + 1) = some .mark → Γ3.w.heap[Γ.w.heap.size]? = some (.deferred (some [])) →
        ∀ ob : Obj, ∃ Γ4 : Ctx, Γ4.w = Γ3.w.putObj (Γ.w.heap.size + 1) ob ∧ Step ql B Γ Γ4 ∧ Inv Γ4 B { s with gl := gl } { a with defers := { target := .collected Γ.w.heap.size, args := #[] } :: a.defers } := by
      intro Γ3 gl jump st3 hI3 o1 o2 hk ob
      obtain ⟨k1, k2⟩ := hI3.setMark (ql := ql) (B0 := Γ.w.heap.size) (.inl rfl) (Nat.le_succ _) o2 ob
      obtain ⟨r1, r2, _⟩ := (hI.dead o).back (v := undef) (x := V.un) (st3.trans k1) k2
      refine ⟨_, rfl, r1, ?_⟩
      obtain ⟨ds, d1, d2, d3⟩ := hI.defers
      obtain ⟨ds2, f1, f2, f3⟩ := r2.defers
      have hds : ds2 = ds := markD_inj (f1.symm.trans d1)
      subst hds
      refine { r2 with defers := ⟨Γ.w.heap.size :: ds2, by rw [List.map_cons, ← d1]; rfl, ?_, ?_⟩ }
      · rw [List.nodup_cons]
        refine ⟨fun hmem => ?_, d2⟩
        have := hI.ownlt _ (by rw [(d3 _ hmem).2.2]; simp)
        omega
      · intro D hD
        rcases List.mem_cons.1 hD with rfl | hD
        · exact ⟨(World.putObj_heap_other (by omega)).trans hk, hI.base, o1⟩
        · exact f3 D hD
    refine (hit Γ.calm (Γ.glo o) (Γ.w.heap.size + 1) vs ty ⟨e2.1, fun i v x hv hx => RW.calm (e2.2 i v x hv hx) (e5 x (List.mem_of_getElem? hx))⟩ e4 (fun ad had => (hI.fix ad had).1) J Jx ?_ ?_ ?_ ?_ _ ?_).mono ?_
    · rintro k _ ⟨Γ', gl, rfl, st, _, _, _, _, hv, _⟩
      exact ⟨st.size, hv, fun ad had => (st.F ad had).2⟩
    · rintro k _ M' ⟨Γ', gl, rfl, st, hI', hr, hl, hk, hv, o1, o2, o3⟩ hb' hdr
      obtain ⟨k1, k2⟩ := later hI' hb' hdr
      have lt : ∀ b, Γ'.own b = some .mark → M'.heap[b]? = Γ'.w.heap[b]? := fun b hb => hb'.block b (hI'.ownlt b (by rw [hb]; simp))
      exact ⟨_, gl, rfl, st.trans k1, k2, hr, (lt _ o2).trans hl, (lt _ o1).trans hk, (lt _ o3).trans hv, o1, o2, o3⟩
    · rintro _ M' ⟨Γ', c, rfl, st, hI', hc, hl, hk, o1, o2⟩ hb' hdr
      obtain ⟨k1, k2⟩ := later hI' hb' hdr
      have lt : ∀ b, Γ'.own b = some .mark → M'.heap[b]? = Γ'.w.heap[b]? := fun b hb => hb'.block b (hI'.ownlt b (by rw [hb]; simp))
      exact ⟨_, c, rfl, st.trans k1, k2, hc, (lt _ o2).trans hl, (lt _ o1).trans hk, o1, o2⟩
    · -- one round
      rintro k y args _ hy hargs ⟨Γ', gl, rfl, st, hI', hr, hl, hk, hv, o1, o2, o3⟩
      have hym := hm y (List.mem_of_getElem? hy)
      have hdrop : ys.drop k = y :: ys.drop (k + 1) := by
        obtain ⟨hlt, hyy⟩ := List.getElem?_eq_some_iff.1 hy
        rw [List.drop_eq_getElem_cons hlt, hyy]
      rw [hdrop] at hr
      simp only [rangeA, Option.bind_eq_some_iff] at hr
      obtain ⟨⟨e1', gl1⟩, hR, hrest⟩ := hr
      unfold roundA at hR
      simp only [Option.bind_eq_some_iff] at hR
      obtain ⟨⟨ea, s1⟩, hA, hR⟩ := hR
      cases ea with
      | exit id => cases hR
      | ret => cases hR
      | normal =>
      simp only [Option.map_eq_some_iff] at hR
      obtain ⟨⟨eb, s2⟩, hB, hR⟩ := hR
      simp only [Prod.mk.injEq] at hR
      obtain ⟨rfl, rfl⟩ := hR
      have hy' := run_yield (P := P) (args := args.toArray) hl (by rw [hrec]; simp [hargs.1, hym])
      rw [hrec] at hy'
      have hu := st.up_calm
      have hus : Up (Γ.calm.seen Γ'.w) Γ' := ⟨fun ad had => ⟨(st.F ad had).1, rfl⟩, Nat.zero_le _, fun o ho => absurd ho (Nat.not_lt_zero _), fun k hk => hk.elim, fun k n hk => by cases hk⟩
      have hI0 : Inv Γ' Γ'.w.heap.size { sl := setPs ps.toList y (s.sl.map V.calmed), bx := [], tk := [], gl := gl, ro := s.ro, it := [] } { tmps := (ps.zip args.toArray).foldl (fun tmps (t, a) => tmps.setIfInBounds t a) a.tmps, defers := [] } := by
        have hset := setPs_sound (Γ := Γ') ps.toList y args a.tmps (s.sl.map V.calmed) ⟨hargs.1, fun i v c hv hc => (hargs.2 i v c hv hc).up hus⟩ (by simpa using hym) (by simp [hI.size]) (fun i v x hv hx => by
          rw [List.getElem?_map, Option.map_eq_some_iff] at hx
          obtain ⟨x0, hx0, rfl⟩ := hx
          exact (calmed_sound (hI.slots i v x0 hv hx0)).up hu)
        have hfold : (ps.zip args.toArray).foldl (fun tmps (t, a) => tmps.setIfInBounds t a) a.tmps = (ps.toList.zip args).foldl (fun t (p, v) => t.setIfInBounds p v) a.tmps := by
          rw [← Array.foldl_toList]
          simp
        rw [hfold]
        exact ⟨Marks.nil, hset.1, hset.2, hI'.len, hI'.bl, hI'.ng, fun k cs hk => by simp [look] at hk, fun k t hk => by simp [look] at hk, hI'.globs, hI'.fix, hI'.ownlt, Nat.le_refl _, fun k p hk => by simp [look] at hk⟩
      refine ⟨fn, _, assign, body, hy', roundIn_of_wpIn trivial (ha hI0 hA fun Γ1 a1 st1 hI1 => ?_)⟩
      have hN : Γ.w.heap.size ≤ Γ'.w.heap.size := hI'.base
      have mk1 : ∀ b, Γ'.own b = some .mark → Γ1.w.heap[b]? = Γ'.w.heap[b]? ∧ Γ1.own b = some .mark := fun b hb => by
        have hlt := hI'.ownlt b (by rw [hb]; simp)
        have hno : ∀ o, Γ'.own b ≠ some (.glo o) := fun o => by rw [hb]; simp
        exact ⟨st1.old b hlt hno, (st1.own b hlt hno).trans hb⟩
      have hl1 := (mk1 _ o2).1.trans hl
      have hlt2 := hI'.ownlt _ (by rw [o2]; simp)
      refine ⟨_, run_beginRound hl1 (by rw [hrec]), ?_⟩
      obtain ⟨p1, p2⟩ := hI1.setMark (ql := ql) (B0 := Γ.w.heap.size) (.inr hlt2) (Nat.le_succ _) (mk1 _ o2).2 (.loop { rec .ready none with state := .busy })
      refine hb (Γ := { Γ1 with w := Γ1.w.putObj (Γ.w.heap.size + 1) (.loop { rec .ready none with state := .busy }) }) p2 hB fun Γ2 a2 st2 hI2 => ?_
      have mk2 : ∀ b, Γ'.own b = some .mark → Γ2.w.heap[b]? = (Γ1.w.putObj (Γ.w.heap.size + 1) (.loop { rec .ready none with state := .busy })).heap[b]? ∧ Γ2.own b = some .mark := fun b hb => by
        have hlt := hI'.ownlt b (by rw [hb]; simp)
        have hb1 : Γ1.own b = some .mark := (mk1 b hb).2
        have hno : ∀ o, Γ1.own b ≠ some (.glo o) := fun o => by rw [hb1]; simp
        exact ⟨st2.old b hlt hno, (st2.own b hlt hno).trans hb1⟩
      have hl2 : Γ2.w.heap[Γ.w.heap.size + 1]? = some (.loop { rec .ready none with state := .busy }) := by
        rw [(mk2 _ o2).1]
        exact World.putObj_heap_same (hI1.ownlt _ (by rw [(mk1 _ o2).2]; simp))
      have hk2 : Γ2.w.heap[Γ.w.heap.size]? = some (.deferred (some [])) := by
        rw [(mk2 _ o1).1, World.putObj_heap_other (by omega), (mk1 _ o1).1, hk]
      have hgN : Γ.glo o ≠ Γ.w.heap.size + 1 := by omega
      have hv2 : Γ2.w.heap[Γ.glo o]? = some (.cells vs ty (0, 0)) := by
        rw [(mk2 _ o3).1, World.putObj_heap_other hgN, (mk1 _ o3).1, hv]
      have st2' : Step ql Γ.w.heap.size Γ.calm Γ2 := ((st.trans (st1.mono hN)).trans p1).trans (st2.mono hN)
      -- the end of the round
      have endr : ∀ jump : Option Code, (Instr.endRound (Γ.w.heap.size + 1) jump).run P Γ2.w = .ok (.bool jump.isNone) (Γ2.w.putObj (Γ.w.heap.size + 1) (.loop (rec (if jump.isNone then .ready else .done) jump))) := fun jump => by
        have := run_endRound (P := P) jump hl2
        rw [hrec] at this ⊢
        exact this
      have close : ∀ ob : Obj, ∃ Γ3 : Ctx, Γ3.w = Γ2.w.putObj (Γ.w.heap.size + 1) ob ∧ Step ql Γ.w.heap.size Γ.calm Γ3 ∧ Inv Γ3 Γ.w.heap.size (bare s2.gl s.ro) bareA ∧ Γ3.own = Γ2.own ∧
          Γ3.w.heap[Γ.w.heap.size + 1]? = some ob ∧ Γ3.w.heap[Γ.w.heap.size]? = some (.deferred (some [])) ∧ Γ3.w.heap[Γ.glo o]? = some (.cells vs ty (0, 0)) := fun ob => by
        obtain ⟨t1, t2⟩ := hI2.setMark (ql := ql) (B0 := Γ.w.heap.size) (.inr hlt2) (Nat.le_succ _) (mk2 _ o2).2 ob
        exact ⟨_, rfl, (st2'.trans t1).to_calm, t2.leave hN s.ro, rfl, World.putObj_heap_same (hI2.ownlt _ (by rw [(mk2 _ o2).2]; simp)), (World.putObj_heap_other (by omega)).trans hk2, (World.putObj_heap_other hgN).trans hv2⟩
      cases eb with
      | normal =>
        obtain ⟨Γ3, w3, st3, hI3, ow3, hl3, hk3, hv3⟩ := close (.loop (rec .ready none))
        refine ⟨_, _, endr none, .inl ⟨rfl, Γ3, s2.gl, w3, st3, hI3, hrest, ?_, ?_, ?_, by rw [ow3]; exact (mk2 _ o1).2, by rw [ow3]; exact (mk2 _ o2).2, by rw [ow3]; exact (mk2 _ o3).2⟩⟩
        · rw [w3] at hl3; exact hl3
        · rw [w3] at hk3; exact hk3
        · rw [w3] at hv3; exact hv3
      | exit id =>
        simp only [Option.some.injEq, Prod.mk.injEq] at hrest
        obtain ⟨rfl, rfl⟩ := hrest
        obtain ⟨Γ3, w3, st3, hI3, ow3, hl3, hk3, hv3⟩ := close (.loop (rec .done (some (.exit id))))
        refine ⟨_, _, endr (some (.exit id)), .inr ⟨rfl, Γ3, .exit id, w3, st3, hI3, rfl, ?_, ?_, by rw [ow3]; exact (mk2 _ o1).2, by rw [ow3]; exact (mk2 _ o2).2⟩⟩
        · rw [w3] at hl3; exact hl3
        · rw [w3] at hk3; exact hk3
      | ret =>
        simp only [Option.some.injEq, Prod.mk.injEq] at hrest
        obtain ⟨rfl, rfl⟩ := hrest
        obtain ⟨Γ3, w3, st3, hI3, ow3, hl3, hk3, hv3⟩ := close (.loop (rec .done (some .ret)))
        refine ⟨_, _, endr (some .ret), .inr ⟨rfl, Γ3, .ret, w3, st3, hI3, rfl, ?_, ?_, by rw [ow3]; exact (mk2 _ o1).2, by rw [ow3]; exact (mk2 _ o2).2⟩⟩
        · rw [w3] at hl3; exact hl3
        · rw [w3] at hk3; exact hk3
    · exact ⟨_, _, rfl, q1, q2, h, hL1, hK1, hG1, by simp [Ctx.enterR], by simp [Ctx.enterR], by simp [Ctx.enterR]⟩
    · rintro e' _ ⟨⟨v, rfl⟩, hJ⟩
      rcases hJ with ⟨Γ3, gl, rfl, st3, hI3, hr, hl, hk, hv, o1, o2, o3⟩ | ⟨Γ3, c, rfl, st3, hI3, hc, hl, hk, o1, o2⟩
      · rw [List.drop_length] at hr
        simp only [rangeA, Option.some.injEq, Prod.mk.injEq] at hr
        obtain ⟨rfl, rfl⟩ := hr
        have hend := run_endLoop (P := P) hl (by rw [hrec]; simp)
        obtain ⟨Γ4, w4, st4, hI4⟩ := fin none st3 hI3 o1 o2 hk (.loop { rec .ready none with state := .exhausted })
        refine ⟨none, Γ4.w, by rw [w4]; rw [hrec] at hend ⊢; exact hend, ?_⟩
        exact hQ Γ4 _ st4 hI4
      · have hend := run_endLoop (P := P) hl (by rw [hrec]; simp)
        obtain ⟨Γ4, w4, st4, hI4⟩ := fin none st3 hI3 o1 o2 hk (.loop { rec .done (some c) with state := .exhausted })
        refine ⟨some c, Γ4.w, by rw [w4]; rw [hrec] at hend ⊢; exact hend, ?_⟩
        have := hQ Γ4 _ st4 hI4
        cases e with
        | normal => cases hc
        | exit id => cases hc; exact wpIn_exit this
        | ret => cases hc; exact wpIn_ret this
end
end Go.Proofs.YtckonoejmjblfaaGreat.Ev
