/- What the plain evaluator's states mean of a running call's slots and memory. -/
import Derived.Test.YtckonoejmjblfaaGreatEvA
set_option linter.unusedVariables false
set_option linter.unusedSimpArgs false
namespace Go.Proofs.YtckonoejmjblfaaGreat.Ev
open Go Go.RowKit

/-- Value v reads as the closed datum d; all its cells are among those that nobody writes any more. -/
inductive RD (F : Addr → Prop) (w : World) : Value → D → Prop
  | int (k : IntKind) (n : Int) : RD F w (.int k n) (.int k n)
  | bool (b : Bool) : RD F w (.bool b) (.bool b)
  | str (s : ByteArray) (l : List UInt8) (hl : s.data.toList = l) (h : s.size ≤ maxLen) : RD F w (.string s) (.str l)
  | sl (A : Option Addr) (n c sz : Nat) (xs : List (List D)) (vs : Nat → Nat → Value) (hn : xs.length = n) (hc : n ≤ c) (hm : c ≤ maxLen)
      (hA : A = none → c = 0) (hsz : ∀ (i : Nat) (x : List D), xs[i]? = some x → x.length = sz)
      (hcell : ∀ a, A = some a → ∀ i j, i < n → j < sz → F (a.add (i * sz + j)) ∧ w.cell? (a.add (i * sz + j)) = some (vs i j))
      (hd : ∀ (i j : Nat) (x : List D) (d : D), xs[i]? = some x → x[j]? = some d → RD F w (vs i j) d) : RD F w (.slice A n c) (.sl xs)

theorem RD.mono {F F' : Addr → Prop} {w w' : World} (h : ∀ a, F a → F' a ∧ w'.cell? a = w.cell? a) {v : Value} {d : D} (hr : RD F w v d) : RD F' w' v d := by
  induction hr with
  | int k n => exact .int k n
  | bool b => exact .bool b
  | str s l hl hs => exact .str s l hl hs
  | sl A n c sz xs vs hn hc hm hA hsz hcell hd ih =>
    refine .sl A n c sz xs vs hn hc hm hA hsz (fun a ha i j hi hj => ?_) (fun i j x d hx hdd => ih i j x d hx hdd)
    obtain ⟨h1, h2⟩ := hcell a ha i j hi hj
    obtain ⟨h3, h4⟩ := h _ h1
    exact ⟨h3, h4.trans h2⟩

inductive Owner where
  | box (k : Nat)
  | tok (k : Nat)
  | glo (o : Nat)
  | mark

structure Ctx where
  F : Addr → Prop
  w : World
  box : Nat → Nat
  bl : Nat → Prop
  tok : Nat → Value
  len : Nat → Option Nat
  glb : Nat → Nat × Nat
  ng : Nat
  own : Nat → Option Owner
/-- The block of a shared object, and how many cells it has. -/
abbrev Ctx.glo (Γ : Ctx) (o : Nat) : Nat := (Γ.glb o).1
abbrev Ctx.gsz (Γ : Ctx) (o : Nat) : Nat := (Γ.glb o).2

def ptr (g off : Nat) : Value := .pointer (some ⟨g, off, none⟩)

def RW (Γ : Ctx) (v : Value) : W → Prop
  | .d x => RD Γ.F Γ.w v x
  | .full xs => RD Γ.F Γ.w v (.sl xs) ∧ ∃ A n, v = .slice A n n
  | .app k xs => RD Γ.F Γ.w v (.sl xs) ∧ ∃ n, Γ.len k = some n ∧ xs.length ≤ n ∧ (xs.length = n → v = Γ.tok k)
  | .box k off => v = ptr (Γ.box k) off ∧ Γ.bl k
  | .glo o off => v = ptr (Γ.glo o) off ∧ o < Γ.ng
  | .ref cs => ∃ a, v = .pointer (some a) ∧ ∃ vs : Nat → Value, ∀ j d, cs[j]? = some d → Γ.F (a.add j) ∧ Γ.w.cell? (a.add j) = some (vs j) ∧ RD Γ.F Γ.w (vs j) d
  | .fn f caps => v = .func (.func f) #[] (caps.map fun o => ptr (Γ.glo o) 0).toArray ∧ ∀ o ∈ caps, o < Γ.ng
  | .bsl k off n => ∃ ad c, v = .slice (some ad) n c ∧ (0 < n → ad = ⟨Γ.box k, off, none⟩) ∧ n ≤ 65536 ∧ Γ.bl k
  | .gsl o off n m z => ∃ c, v = .slice (some ⟨Γ.glo o, off, none⟩) n c ∧ n ≤ m ∧ m ≤ c ∧ c ≤ maxLen ∧ off + c * z ≤ Γ.gsz o ∧ o < Γ.ng
  | .nil => v = .pointer none
  | .un => True

def All2 {α β : Type} (R : α → β → Prop) (xs : List α) (ys : List β) : Prop := xs.length = ys.length ∧ ∀ (i : Nat) a b, xs[i]? = some a → ys[i]? = some b → R a b

def RC (Γ : Ctx) (v : Value) : C → Prop
  | .w x => RW Γ v x
  | .agg xs => ∃ cs : Array Value, v = .agg cs ∧ All2 (RW Γ) cs.toList xs ∧ ∀ u ∈ cs.toList, u.oneCell' = true
def RV (Γ : Ctx) (v : Value) : V → Prop
  | .c x => RC Γ v x
  | .tup xs => ∃ vs : Array Value, v = .tuple vs ∧ All2 (RC Γ) vs.toList xs

theorem RD.oneCell {F : Addr → Prop} {w : World} {v : Value} {d : D} (h : RD F w v d) : v.oneCell' = true ∧ v.cells = #[v] := by
  cases h <;> exact ⟨rfl, rfl⟩
theorem RW.oneCell {Γ : Ctx} {v : Value} {x : W} (h : RW Γ v x) (hx : x.known = true) : v.oneCell' = true ∧ v.cells = #[v] := by
  cases x <;> simp only [RW] at h
  case d => exact h.oneCell
  case full => exact h.1.oneCell
  case app => exact h.1.oneCell
  case box => obtain ⟨rfl, _⟩ := h; exact ⟨rfl, rfl⟩
  case glo => obtain ⟨rfl, _⟩ := h; exact ⟨rfl, rfl⟩
  case ref => obtain ⟨a, rfl, _⟩ := h; exact ⟨rfl, rfl⟩
  case fn => obtain ⟨rfl, _⟩ := h; exact ⟨rfl, rfl⟩
  case bsl => obtain ⟨ad, c, rfl, _⟩ := h; exact ⟨rfl, rfl⟩
  case gsl => obtain ⟨c, rfl, _⟩ := h; exact ⟨rfl, rfl⟩
  case nil => subst h; exact ⟨rfl, rfl⟩
  case un => simp [W.known] at hx

theorem All2.mono {α β : Type} {R R' : α → β → Prop} (h : ∀ a b, R a b → R' a b) {xs : List α} {ys : List β} (k : All2 R xs ys) : All2 R' xs ys :=
  ⟨k.1, fun i a b ha hb => h a b (k.2 i a b ha hb)⟩
theorem All2.nil {α β : Type} {R : α → β → Prop} : All2 R [] [] := ⟨rfl, fun i a b h => by simp at h⟩
theorem All2.cons {α β : Type} {R : α → β → Prop} {a : α} {b : β} {xs : List α} {ys : List β} (h : R a b) (k : All2 R xs ys) : All2 R (a :: xs) (b :: ys) := by
  refine ⟨by simp [k.1], fun i x y hx hy => ?_⟩
  cases i with
  | zero => simp at hx hy; subst hx; subst hy; exact h
  | succ i => exact k.2 i x y (by simpa using hx) (by simpa using hy)
theorem All2.get {α β : Type} {R : α → β → Prop} {xs : List α} {ys : List β} (k : All2 R xs ys) {i : Nat} {b : β} (h : ys[i]? = some b) : ∃ a, xs[i]? = some a ∧ R a b := by
  have hi : i < ys.length := (List.getElem?_eq_some_iff.1 h).1
  have hi' : i < xs.length := by rw [k.1]; exact hi
  exact ⟨xs[i], List.getElem?_eq_getElem hi', k.2 i _ b (List.getElem?_eq_getElem hi') h⟩
theorem All2.uncons {α β : Type} {R : α → β → Prop} {b : β} {xs : List α} {ys : List β} (k : All2 R xs (b :: ys)) : ∃ a r, xs = a :: r ∧ R a b ∧ All2 R r ys := by
  cases xs with
  | nil => have := k.1; simp at this
  | cons a r => exact ⟨a, r, rfl, k.2 0 a b rfl rfl, by have := k.1; simpa using this, fun i x y hx hy => k.2 (i + 1) x y (by simpa using hx) (by simpa using hy)⟩
theorem All2.nil_iff {α β : Type} {R : α → β → Prop} {xs : List α} (k : All2 R xs ([] : List β)) : xs = [] := List.eq_nil_of_length_eq_zero k.1
theorem All2.drop {α β : Type} {R : α → β → Prop} {xs : List α} {ys : List β} (k : All2 R xs ys) (n : Nat) : All2 R (xs.drop n) (ys.drop n) :=
  ⟨by simp [k.1], fun i a b ha hb => k.2 (n + i) a b (by simpa using ha) (by simpa using hb)⟩
theorem All2.take {α β : Type} {R : α → β → Prop} {xs : List α} {ys : List β} (k : All2 R xs ys) (n : Nat) : All2 R (xs.take n) (ys.take n) := by
  refine ⟨by simp [k.1], fun i a b ha hb => ?_⟩
  rw [List.getElem?_take] at ha hb
  by_cases h : i < n
  · simp only [h, if_true] at ha hb; exact k.2 i a b ha hb
  · simp [h] at ha
theorem All2.append {α β : Type} {R : α → β → Prop} {xs xs' : List α} {ys ys' : List β} (k : All2 R xs ys) (k' : All2 R xs' ys') : All2 R (xs ++ xs') (ys ++ ys') := by
  refine ⟨by simp [k.1, k'.1], fun i a b ha hb => ?_⟩
  by_cases h : i < xs.length
  · rw [List.getElem?_append_left h] at ha
    rw [List.getElem?_append_left (by rw [← k.1]; exact h)] at hb
    exact k.2 i a b ha hb
  · rw [List.getElem?_append_right (by omega)] at ha
    rw [List.getElem?_append_right (by rw [← k.1]; omega), ← k.1] at hb
    exact k'.2 _ a b ha hb
theorem All2.map_right {α β γ : Type} {R : α → γ → Prop} (f : β → γ) {xs : List α} {ys : List β} (k : All2 (fun a b => R a (f b)) xs ys) : All2 R xs (ys.map f) := by
  refine ⟨by simp [k.1], fun i a b ha hb => ?_⟩
  rw [List.getElem?_map] at hb
  cases hy : ys[i]? with
  | none => simp [hy] at hb
  | some y => simp [hy] at hb; subst hb; exact k.2 i a y ha hy
theorem All2.of_map_right {α β γ : Type} {R : α → γ → Prop} (f : β → γ) {xs : List α} {ys : List β} (k : All2 R xs (ys.map f)) : All2 (fun a b => R a (f b)) xs ys :=
  ⟨by simpa using k.1, fun i a b ha hb => k.2 i a (f b) ha (by simp [hb])⟩

/-- What lay stays as it lay. -/
structure Up (Γ Γ' : Ctx) : Prop where
  F : ∀ a, Γ.F a → Γ'.F a ∧ Γ'.w.cell? a = Γ.w.cell? a
  ng : Γ.ng ≤ Γ'.ng
  glb : ∀ o, o < Γ.ng → Γ'.glb o = Γ.glb o
  box : ∀ k, Γ.bl k → Γ'.bl k ∧ Γ'.box k = Γ.box k
  tok : ∀ k n, Γ.len k = some n → ∃ n', Γ'.len k = some n' ∧ ((n' = n ∧ Γ'.tok k = Γ.tok k) ∨ n < n')

theorem Up.glo {Γ Γ' : Ctx} (u : Up Γ Γ') (o : Nat) (h : o < Γ.ng) : Γ'.glo o = Γ.glo o := by rw [Ctx.glo, u.glb o h]
theorem Up.refl (Γ : Ctx) : Up Γ Γ := ⟨fun a h => ⟨h, rfl⟩, Nat.le_refl _, fun _ _ => rfl, fun _ h => ⟨h, rfl⟩, fun k n h => ⟨n, h, .inl ⟨rfl, rfl⟩⟩⟩

theorem RW.up {Γ Γ' : Ctx} (u : Up Γ Γ') {v : Value} {x : W} (h : RW Γ v x) : RW Γ' v x := by
  cases x <;> simp only [RW] at h ⊢
  case d => exact h.mono u.F
  case full => exact ⟨h.1.mono u.F, h.2⟩
  case app k xs =>
    obtain ⟨h1, n, h2, h3, h4⟩ := h
    obtain ⟨n', h5, h6⟩ := u.tok k n h2
    refine ⟨h1.mono u.F, n', h5, ?_, ?_⟩
    · rcases h6 with ⟨rfl, _⟩ | h6 <;> omega
    · intro e
      rcases h6 with ⟨rfl, h6⟩ | h6
      · rw [h6]; exact h4 e
      · omega
  case box k off => obtain ⟨h1, h2⟩ := h; obtain ⟨h3, h4⟩ := u.box k h2; exact ⟨by rw [h4]; exact h1, h3⟩
  case glo o off => exact ⟨by rw [u.glo o h.2]; exact h.1, Nat.lt_of_lt_of_le h.2 u.ng⟩
  case ref cs =>
    obtain ⟨a, rfl, vs, h⟩ := h
    refine ⟨a, rfl, vs, fun j d hj => ?_⟩
    obtain ⟨h1, h2, h3⟩ := h j d hj
    obtain ⟨h4, h5⟩ := u.F _ h1
    exact ⟨h4, h5.trans h2, h3.mono u.F⟩
  case fn f caps =>
    refine ⟨?_, fun o ho => Nat.lt_of_lt_of_le (h.2 o ho) u.ng⟩
    rw [h.1]
    congr 2
    exact List.map_congr_left fun o ho => by rw [u.glo o (h.2 o ho)]
  case bsl k off n => obtain ⟨ad, c, h1, h2, h6, h3⟩ := h; obtain ⟨h4, h5⟩ := u.box k h3; exact ⟨ad, c, h1, by rw [h5]; exact h2, h6, h4⟩
  case gsl o off n m z => obtain ⟨c, h1, h2, h3, h4, h5, h6⟩ := h; exact ⟨c, by rw [u.glo o h6]; exact h1, h2, h3, h4, by rw [Ctx.gsz, u.glb o h6]; exact h5, Nat.lt_of_lt_of_le h6 u.ng⟩
  case nil => exact h
theorem RC.up {Γ Γ' : Ctx} (u : Up Γ Γ') {v : Value} {x : C} (h : RC Γ v x) : RC Γ' v x := by
  cases x with
  | w x => exact RW.up u h
  | agg xs => obtain ⟨cs, rfl, h1, h2⟩ := h; exact ⟨cs, rfl, h1.mono fun _ _ => RW.up u, h2⟩
theorem RV.up {Γ Γ' : Ctx} (u : Up Γ Γ') {v : Value} {x : V} (h : RV Γ v x) : RV Γ' v x := by
  cases x with
  | c x => exact RC.up u h
  | tup xs => obtain ⟨cs, rfl, h1⟩ := h; exact ⟨cs, rfl, h1.mono fun _ _ => RC.up u⟩

/-- New blocks alone. -/
structure Grow (Γ Γ' : Ctx) : Prop where
  box : Γ'.box = Γ.box
  bl : Γ'.bl = Γ.bl
  tok : Γ'.tok = Γ.tok
  len : Γ'.len = Γ.len
  glb : Γ'.glb = Γ.glb
  ng : Γ'.ng = Γ.ng
  own : Γ'.own = Γ.own
  os : Γ'.w.os = Γ.w.os
  tape : Γ'.w.tape = Γ.w.tape
  output : Γ'.w.output = Γ.w.output
  size : Γ.w.heap.size ≤ Γ'.w.heap.size
  block : ∀ g, g < Γ.w.heap.size → Γ'.w.heap[g]? = Γ.w.heap[g]?
  F : ∀ a, Γ.F a → Γ'.F a
  Fnew : ∀ a, Γ'.F a → Γ.F a ∨ (Γ.w.heap.size ≤ a.block ∧ a.block < Γ'.w.heap.size)
  drawn : Γ.w.drawn ≤ Γ'.w.drawn
/-- The same, without a word on draws. -/
structure Grow0 (Γ Γ' : Ctx) : Prop where
  box : Γ'.box = Γ.box
  bl : Γ'.bl = Γ.bl
  tok : Γ'.tok = Γ.tok
  len : Γ'.len = Γ.len
  glb : Γ'.glb = Γ.glb
  ng : Γ'.ng = Γ.ng
  own : Γ'.own = Γ.own
  os : Γ'.w.os = Γ.w.os
  tape : Γ'.w.tape = Γ.w.tape
  output : Γ'.w.output = Γ.w.output
  size : Γ.w.heap.size ≤ Γ'.w.heap.size
  block : ∀ g, g < Γ.w.heap.size → Γ'.w.heap[g]? = Γ.w.heap[g]?
  F : ∀ a, Γ.F a → Γ'.F a
  Fnew : ∀ a, Γ'.F a → Γ.F a ∨ (Γ.w.heap.size ≤ a.block ∧ a.block < Γ'.w.heap.size)
theorem Grow.weak {Γ Γ' : Ctx} (g : Grow Γ Γ') : Grow0 Γ Γ' := ⟨g.box, g.bl, g.tok, g.len, g.glb, g.ng, g.own, g.os, g.tape, g.output, g.size, g.block, g.F, g.Fnew⟩
theorem Grow.refl (Γ : Ctx) : Grow Γ Γ := ⟨rfl, rfl, rfl, rfl, rfl, rfl, rfl, rfl, rfl, rfl, Nat.le_refl _, fun _ _ => rfl, fun _ h => h, fun _ h => .inl h, Nat.le_refl _⟩
theorem cell_of_block {w w' : World} {a : Addr} (h : w'.heap[a.block]? = w.heap[a.block]?) : w'.cell? a = w.cell? a := by simp [World.cell?, h]

/-- What a range over a function leaves behind among a call's deferred calls. -/
def markD (D : Nat) : Deferred := { target := .collected D, args := #[] }
def Marks (Γ : Ctx) (B : Nat) (l : List Deferred) : Prop := ∃ ds : List Nat, l = ds.map markD ∧ ds.Nodup ∧ ∀ D ∈ ds, Γ.w.heap[D]? = some (.deferred (some [])) ∧ B ≤ D ∧ Γ.own D = some .mark
theorem Marks.nil {Γ : Ctx} {B : Nat} : Marks Γ B [] := ⟨[], rfl, .nil, by simp⟩
theorem Marks.go {Γ Γ' : Ctx} {B : Nat} {l : List Deferred} (h : Marks Γ B l) (k : ∀ D, Γ.own D = some .mark → Γ.w.heap[D]? = some (.deferred (some [])) → Γ'.w.heap[D]? = Γ.w.heap[D]? ∧ Γ'.own D = some .mark) : Marks Γ' B l := by
  obtain ⟨ds, h1, h0, h2⟩ := h
  refine ⟨ds, h1, h0, fun D hD => ?_⟩
  obtain ⟨e1, e2, e3⟩ := h2 D hD
  obtain ⟨k1, k2⟩ := k D e3 e1
  exact ⟨k1.trans e1, e2, k2⟩

/-- The state s tells the slots and the memory of a running call, whose blocks begin at B. -/
structure Inv (Γ : Ctx) (B : Nat) (s : St) (a : Act) : Prop where
  defers : Marks Γ B a.defers
  size : a.tmps.size = s.sl.length
  slots : ∀ (i : Nat) v x, a.tmps[i]? = some v → s.sl[i]? = some x → RV Γ v x
  len : ∀ k, Γ.len k = (look s.tk k).map (·.n)
  bl : ∀ k, Γ.bl k ↔ ((look s.bx k).isSome = true ∨ (look s.it k).isSome = true)
  ng : Γ.ng = s.gl.length
  boxes : ∀ k cs, look s.bx k = some cs → ∃ vs ty, Γ.w.heap[Γ.box k]? = some (.cells vs ty (0, 0)) ∧ B ≤ Γ.box k ∧ All2 (RW Γ) vs.toList cs ∧ Γ.own (Γ.box k) = some (.box k) ∧ ∀ u ∈ vs.toList, u.oneCell' = true
  toks : ∀ k t, look s.tk k = some t → ∃ g cap cur, Γ.tok k = .slice (some ⟨g, 0, none⟩) t.n cap ∧ Γ.w.heap[g]? = some (.cells cur t.e (0, 0)) ∧ t.n ≤ cap ∧ cap ≤ maxLen ∧ cur.size = cap * t.sz ∧
    B ≤ g ∧ Γ.own g = some (.tok k) ∧ 0 < t.n ∧ ∀ a, Γ.F a → a.block = g → a.off < t.n * t.sz
  globs : ∀ (o : Nat) cs, s.gl[o]? = some cs → cs ≠ [] → ∃ vs ty, Γ.w.heap[Γ.glo o]? = some (.cells vs ty (0, 0)) ∧ All2 (RW Γ) (vs.toList.take cs.length) cs ∧ Γ.own (Γ.glo o) = some (.glo o) ∧ (∀ u ∈ vs.toList, u.oneCell' = true) ∧ (∀ c ∈ cs, W.free c = true) ∧ vs.size = Γ.gsz o
  fix : ∀ a, Γ.F a → a.block < Γ.w.heap.size ∧ (Γ.own a.block = none ∨ ∃ k, Γ.own a.block = some (.tok k))
  ownlt : ∀ g, Γ.own g ≠ none → g < Γ.w.heap.size
  base : B ≤ Γ.w.heap.size
  its : ∀ k p, look s.it k = some p → Γ.w.heap[Γ.box k]? = some (.stringIter ⟨p.1.toArray⟩ p.2) ∧ B ≤ Γ.box k ∧ Γ.own (Γ.box k) = some (.box k) ∧ p.1.length ≤ maxLen

theorem Inv.up_of_grow0 {Γ Γ' : Ctx} {B : Nat} {s : St} {a : Act} (h : Inv Γ B s a) (g : Grow0 Γ Γ') : Up Γ Γ' := by
  refine ⟨fun a ha => ⟨g.F a ha, cell_of_block (g.block _ (h.fix a ha).1)⟩, by rw [g.ng]; exact Nat.le_refl _, fun _ _ => by rw [g.glb], fun k hk => by rw [g.bl, g.box]; exact ⟨hk, rfl⟩, fun k n hk => ⟨n, by rw [g.len]; exact hk, .inl ⟨rfl, by rw [g.tok]⟩⟩⟩
theorem Inv.grow0 {Γ Γ' : Ctx} {B : Nat} {s : St} {a : Act} (h : Inv Γ B s a) (g : Grow0 Γ Γ') : Inv Γ' B s a := by
  have u := h.up_of_grow0 g
  refine ⟨h.defers.go fun D e _ => ⟨g.block D (h.ownlt D (by simp [e])), by rw [g.own]; exact e⟩, h.size, fun i v x hv hx => (h.slots i v x hv hx).up u, by rw [g.len]; exact h.len, by rw [g.bl]; exact h.bl, by rw [g.ng]; exact h.ng, ?_, ?_, ?_, ?_, ?_, Nat.le_trans h.base g.size, fun k p hk => by
    obtain ⟨e1, e2, e3, e4⟩ := h.its k p hk
    exact ⟨by rw [g.box, g.block _ (h.ownlt _ (by simp [e3]))]; exact e1, by rw [g.box]; exact e2, by rw [g.box, g.own]; exact e3, e4⟩⟩
  · intro k cs hk
    obtain ⟨vs, ty, h1, h2, h3, h4, h5⟩ := h.boxes k cs hk
    exact ⟨vs, ty, by rw [g.box, g.block _ (h.ownlt _ (by simp [h4]))]; exact h1, by rw [g.box]; exact h2, h3.mono fun _ _ => RW.up u, by rw [g.box, g.own]; exact h4, h5⟩
  · intro k t hk
    obtain ⟨b, cap, cur, h1, h2, h3, h4, h5, h6, h7, h8, h9⟩ := h.toks k t hk
    have hlt := h.ownlt b (by simp [h7])
    refine ⟨b, cap, cur, by rw [g.tok]; exact h1, by rw [g.block _ hlt]; exact h2, h3, h4, h5, h6, by rw [g.own]; exact h7, h8, fun a ha hb => ?_⟩
    rcases g.Fnew a ha with ha | ⟨ha, _⟩
    · exact h9 a ha hb
    · omega
  · intro o cs ho hne
    obtain ⟨vs, ty, h1, h2, h3, h4, h5, h6⟩ := h.globs o cs ho hne
    have e : Γ'.glo o = Γ.glo o := by rw [Ctx.glo, g.glb]
    exact ⟨vs, ty, by rw [e, g.block _ (h.ownlt _ (by simp [h3]))]; exact h1, h2.mono fun _ _ => RW.up u, by rw [e, g.own]; exact h3, h4, h5, by rw [Ctx.gsz, g.glb]; exact h6⟩
  · intro a ha
    rcases g.Fnew a ha with ha | ⟨ha, hb⟩
    · have := h.fix a ha
      exact ⟨Nat.lt_of_lt_of_le this.1 g.size, by rw [g.own]; exact this.2⟩
    · refine ⟨hb, .inl ?_⟩
      rw [g.own]
      cases ho : Γ.own a.block with
      | none => rfl
      | some o => have := h.ownlt a.block (by simp [ho]); omega
  · intro b hb
    rw [g.own] at hb
    exact Nat.lt_of_lt_of_le (h.ownlt b hb) g.size

theorem Inv.up_of_grow {Γ Γ' : Ctx} {B : Nat} {s : St} {a : Act} (h : Inv Γ B s a) (g : Grow Γ Γ') : Up Γ Γ' := h.up_of_grow0 g.weak
theorem Inv.grow {Γ Γ' : Ctx} {B : Nat} {s : St} {a : Act} (h : Inv Γ B s a) (g : Grow Γ Γ') : Inv Γ' B s a := h.grow0 g.weak

/-! operands -/
theorem constW_sound {Γ : Ctx} {v : Value} {x : W} (h : constW v = some x) : RW Γ v x ∧ v.oneCell' = true ∧ x.known = true := by
  unfold constW at h
  split at h
  · cases h; exact ⟨RD.int _ _, rfl, rfl⟩
  · cases h; exact ⟨RD.bool _, rfl, rfl⟩
  · split at h
    · rename_i s hs; cases h; exact ⟨RD.str s _ rfl hs, rfl, rfl⟩
    · cases h
  · cases h; exact ⟨rfl, rfl, rfl⟩
  · cases h
    exact ⟨⟨RD.sl none 0 0 0 [] (fun _ _ => .nilFunc) rfl (Nat.le_refl _) (by simp [maxLen]) (fun _ => rfl) (by simp) (fun a ha => by cases ha) (by simp), _, _, rfl⟩, rfl, rfl⟩
  · cases h
theorem constWs_sound {Γ : Ctx} : ∀ {vs : List Value} {xs : List W}, constWs vs = some xs → All2 (RW Γ) vs xs ∧ (∀ u ∈ vs, u.oneCell' = true) ∧ xs.all W.known = true
  | [], xs, h => by simp [constWs] at h; subst h; exact ⟨All2.nil, by simp, rfl⟩
  | v :: r, xs, h => by
    simp only [constWs, Option.bind_eq_some_iff, Option.map_eq_some_iff] at h
    obtain ⟨a, ha, b, hb, rfl⟩ := h
    obtain ⟨h1, h2, h5⟩ := constW_sound (Γ := Γ) ha
    obtain ⟨h3, h4, h6⟩ := constWs_sound (Γ := Γ) hb
    exact ⟨All2.cons h1 h3, by simpa using ⟨h2, h4⟩, by simp [h5, h6]⟩
theorem constC_sound {Γ : Ctx} {v : Value} {x : C} (h : constC v = some x) : RC Γ v x ∧ x.known = true := by
  unfold constC at h
  split at h
  · rw [Option.map_eq_some_iff] at h
    obtain ⟨xs, hx, rfl⟩ := h
    obtain ⟨h1, h2, h3⟩ := constWs_sound (Γ := Γ) hx
    exact ⟨⟨_, rfl, h1, h2⟩, h3⟩
  · cases h
  · rw [Option.map_eq_some_iff] at h
    obtain ⟨y, hy, rfl⟩ := h
    exact ⟨(constW_sound hy).1, (constW_sound (Γ := Γ) hy).2.2⟩
theorem get_sound {Γ : Ctx} {B : Nat} {s : St} {a : Act} (h : Inv Γ B s a) (t : Nat) : RV Γ (a.tmps.getD t undef) (s.get t) := by
  unfold St.get
  by_cases ht : t < s.sl.length
  · have ht' : t < a.tmps.size := by rw [h.size]; exact ht
    rw [List.getD_eq_getElem?_getD, List.getElem?_eq_getElem ht, Array.getD_eq_getD_getElem?, Array.getElem?_eq_getElem ht']
    exact h.slots t _ _ (Array.getElem?_eq_getElem ht') (List.getElem?_eq_getElem ht)
  · rw [List.getD_eq_getElem?_getD, List.getElem?_eq_none (by omega)]
    trivial
theorem ev_sound {Γ : Ctx} {B : Nat} {s : St} {a : Act} (h : Inv Γ B s a) {o : Operand} {x : V} (he : s.ev o = some x) : RV Γ (a.eval o) x := by
  unfold St.ev at he
  split at he
  · cases he; exact get_sound h _
  · unfold constV at he
    split at he
    · cases he; trivial
    · rw [Option.map_eq_some_iff] at he
      obtain ⟨c, hc, rfl⟩ := he
      exact (constC_sound hc).1
  · cases he
    exact ⟨by simp [Act.eval], by simp⟩
  · cases he
theorem comp_sound {Γ : Ctx} {v : Value} {x : V} {c : C} (h : RV Γ v x) (hc : V.comp x = some c) : RC Γ v c ∧ c.known = true := by
  unfold V.comp at hc
  split at hc
  · split at hc
    · cases hc; exact ⟨h, by assumption⟩
    · cases hc
  · cases hc
theorem RC.cells {Γ : Ctx} {v : Value} {c : C} (h : RC Γ v c) (hk : c.known = true) : All2 (RW Γ) v.cells.toList c.cells ∧ ∀ u ∈ v.cells.toList, u.oneCell' = true := by
  cases c with
  | w x =>
    obtain ⟨h1, h2⟩ := RW.oneCell h hk
    rw [h2]
    exact ⟨All2.cons h All2.nil, by simpa using h1⟩
  | agg xs => obtain ⟨cs, rfl, h1, h2⟩ := h; exact ⟨h1, h2⟩
end Go.Proofs.YtckonoejmjblfaaGreat.Ev
