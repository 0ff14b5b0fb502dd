/- What the plain evaluator's states mean of a running call's slots and memory. -/
import Derived.Test.YtckonoejmjblfaaGreatDoorEvA
import Derived.Laws.Entries
import Derived.Laws.Cells
import Derived.ChangeKeysEq
import Derived.Laws.StructEq
import Derived.Laws.IdiomStrings
set_option linter.unusedVariables false
set_option linter.unusedSimpArgs false
namespace Go.Proofs.YtckonoejmjblfaaGreatDoor.Ev
open Go Go.RowKit

/-- Value v reads as the closed datum d; all its cells are among those that nobody writes any more. -/
inductive RD (F : Addr → Prop) (w : World) : Value → D → Prop
  | int (k : IntKind) (n : Int) : RD F w (.int k n) (.int k n)
  | bool (b : Bool) : RD F w (.bool b) (.bool b)
  | str (s : ByteArray) (l : List UInt8) (hl : s.data.toList = l) (h : s.size ≤ maxLen) : RD F w (.string s) (.str l)
  | sl (A : Option Addr) (n c sz : Nat) (xs : List (List D)) (vs : Nat → Nat → Value) (hn : xs.length = n) (hc : n ≤ c) (hm : c ≤ maxLen)
      (hA : A = none → c = 0) (hsz : ∀ (i : Nat) (x : List D), xs[i]? = some x → x.length = sz)
      (hcell : ∀ a, A = some a → ∀ i j, i < n → j < sz → F (a.add (i * sz + j)) ∧ w.cell? (a.add (i * sz + j)) = some (vs i j))
      (hd : ∀ (i j : Nat) (x : List D) (d : D), xs[i]? = some x → x[j]? = some d → RD F w (vs i j) d) : RD F w (.slice A n c) (.sl xs)

theorem RD.mono {F F' : Addr → Prop} {w w' : World} (h : ∀ a, F a → F' a ∧ w'.cell? a = w.cell? a) {v : Value} {d : D} (hr : RD F w v d) : RD F' w' v d := by
  induction hr with
  | int k n => exact .int k n
  | bool b => exact .bool b
  | str s l hl hs => exact .str s l hl hs
  | sl A n c sz xs vs hn hc hm hA hsz hcell hd ih =>
    refine .sl A n c sz xs vs hn hc hm hA hsz (fun a ha i j hi hj => ?_) (fun i j x d hx hdd => ih i j x d hx hdd)
    obtain ⟨h1, h2⟩ := hcell a ha i j hi hj
    obtain ⟨h3, h4⟩ := h _ h1
    exact ⟨h3, h4.trans h2⟩

inductive Owner where
  | box (k : Nat)
  | tok (k : Nat)
  | glo (o : Nat)
  | mark

structure Ctx where
  F : Addr → Prop
  w : World
  box : Nat → Nat
  bl : Nat → Prop
  tok : Nat → Value
  len : Nat → Option Nat
  glb : Nat → Nat × Nat
  ng : Nat
  own : Nat → Option Owner
/-- The block of a shared object, and how many cells it has. -/
abbrev Ctx.glo (Γ : Ctx) (o : Nat) : Nat := (Γ.glb o).1
abbrev Ctx.gsz (Γ : Ctx) (o : Nat) : Nat := (Γ.glb o).2

def ptr (g off : Nat) : Value := .pointer (some ⟨g, off, none⟩)

def RW (Γ : Ctx) (v : Value) : W → Prop
  | .d x => RD Γ.F Γ.w v x
  | .full xs => RD Γ.F Γ.w v (.sl xs) ∧ ∃ A n, v = .slice A n n
  | .app k xs => RD Γ.F Γ.w v (.sl xs) ∧ ∃ n, Γ.len k = some n ∧ xs.length ≤ n ∧ (xs.length = n → v = Γ.tok k)
  | .box k off => v = ptr (Γ.box k) off ∧ Γ.bl k
  | .glo o off => v = ptr (Γ.glo o) off ∧ o < Γ.ng
  | .ref cs => ∃ a, v = .pointer (some a) ∧ ∃ vs : Nat → Value, ∀ j d, cs[j]? = some d → Γ.F (a.add j) ∧ Γ.w.cell? (a.add j) = some (vs j) ∧ RD Γ.F Γ.w (vs j) d
  | .fn f caps => v = .func (.func f) #[] (caps.map fun o => ptr (Γ.glo o) 0).toArray ∧ ∀ o ∈ caps, o < Γ.ng
  | .bsl k off n => ∃ ad c, v = .slice (some ad) n c ∧ (0 < n → ad = ⟨Γ.box k, off, none⟩) ∧ n ≤ 65536 ∧ Γ.bl k
  | .gsl o off n m z => ∃ c, v = .slice (some ⟨Γ.glo o, off, none⟩) n c ∧ n ≤ m ∧ m ≤ c ∧ c ≤ maxLen ∧ off + c * z ≤ Γ.gsz o ∧ o < Γ.ng
  | .row cs n z => (RD Γ.F Γ.w v (.sl (chunk z n (cs.map orE))) ∧ ∃ A n', v = .slice A n' n') ∧ cs.length = n * z ∧ ∀ ad m, v = .slice (some ad) m m → ∀ j, cs[j]? = some none → ∃ A, Γ.F (ad.add j) ∧ Γ.w.cell? (ad.add j) = some (.slice A 0 0)
  | .nil => v = .pointer none
  | .un => True

def All2 {α β : Type} (R : α → β → Prop) (xs : List α) (ys : List β) : Prop := xs.length = ys.length ∧ ∀ (i : Nat) a b, xs[i]? = some a → ys[i]? = some b → R a b

def RC (Γ : Ctx) (v : Value) : C → Prop
  | .w x => RW Γ v x
  | .agg xs => ∃ cs : Array Value, v = .agg cs ∧ All2 (RW Γ) cs.toList xs ∧ ∀ u ∈ cs.toList, u.oneCell' = true
def RV (Γ : Ctx) (v : Value) : V → Prop
  | .c x => RC Γ v x
  | .tup xs => ∃ vs : Array Value, v = .tuple vs ∧ All2 (RC Γ) vs.toList xs

theorem RD.oneCell {F : Addr → Prop} {w : World} {v : Value} {d : D} (h : RD F w v d) : v.oneCell' = true ∧ v.cells = #[v] := by
  cases h <;> exact ⟨rfl, rfl⟩
theorem RW.oneCell {Γ : Ctx} {v : Value} {x : W} (h : RW Γ v x) (hx : x.known = true) : v.oneCell' = true ∧ v.cells = #[v] := by
  cases x <;> simp only [RW] at h
  case d => exact h.oneCell
  case full => exact h.1.oneCell
  case app => exact h.1.oneCell
  case box => obtain ⟨rfl, _⟩ := h; exact ⟨rfl, rfl⟩
  case glo => obtain ⟨rfl, _⟩ := h; exact ⟨rfl, rfl⟩
  case ref => obtain ⟨a, rfl, _⟩ := h; exact ⟨rfl, rfl⟩
  case fn => obtain ⟨rfl, _⟩ := h; exact ⟨rfl, rfl⟩
  case bsl => obtain ⟨ad, c, rfl, _⟩ := h; exact ⟨rfl, rfl⟩
  case gsl => obtain ⟨c, rfl, _⟩ := h; exact ⟨rfl, rfl⟩
  case row => exact h.1.1.oneCell
  case nil => subst h; exact ⟨rfl, rfl⟩
  case un => simp [W.known] at hx

theorem All2.mono {α β : Type} {R R' : α → β → Prop} (h : ∀ a b, R a b → R' a b) {xs : List α} {ys : List β} (k : All2 R xs ys) : All2 R' xs ys :=
  ⟨k.1, fun i a b ha hb => h a b (k.2 i a b ha hb)⟩
theorem All2.nil {α β : Type} {R : α → β → Prop} : All2 R [] [] := ⟨rfl, fun i a b h => by simp at h⟩
theorem All2.cons {α β : Type} {R : α → β → Prop} {a : α} {b : β} {xs : List α} {ys : List β} (h : R a b) (k : All2 R xs ys) : All2 R (a :: xs) (b :: ys) := by
  refine ⟨by simp [k.1], fun i x y hx hy => ?_⟩
  cases i with
  | zero => simp at hx hy; subst hx; subst hy; exact h
  | succ i => exact k.2 i x y (by simpa using hx) (by simpa using hy)
theorem All2.get {α β : Type} {R : α → β → Prop} {xs : List α} {ys : List β} (k : All2 R xs ys) {i : Nat} {b : β} (h : ys[i]? = some b) : ∃ a, xs[i]? = some a ∧ R a b := by
  have hi : i < ys.length := (List.getElem?_eq_some_iff.1 h).1
  have hi' : i < xs.length := by rw [k.1]; exact hi
  exact ⟨xs[i], List.getElem?_eq_getElem hi', k.2 i _ b (List.getElem?_eq_getElem hi') h⟩
theorem All2.uncons {α β : Type} {R : α → β → Prop} {b : β} {xs : List α} {ys : List β} (k : All2 R xs (b :: ys)) : ∃ a r, xs = a :: r ∧ R a b ∧ All2 R r ys := by
  cases xs with
  | nil => have := k.1; simp at this
  | cons a r => exact ⟨a, r, rfl, k.2 0 a b rfl rfl, by have := k.1; simpa using this, fun i x y hx hy => k.2 (i + 1) x y (by simpa using hx) (by simpa using hy)⟩
theorem All2.nil_iff {α β : Type} {R : α → β → Prop} {xs : List α} (k : All2 R xs ([] : List β)) : xs = [] := List.eq_nil_of_length_eq_zero k.1
theorem All2.drop {α β : Type} {R : α → β → Prop} {xs : List α} {ys : List β} (k : All2 R xs ys) (n : Nat) : All2 R (xs.drop n) (ys.drop n) :=
  ⟨by simp [k.1], fun i a b ha hb => k.2 (n + i) a b (by simpa using ha) (by simpa using hb)⟩
theorem All2.take {α β : Type} {R : α → β → Prop} {xs : List α} {ys : List β} (k : All2 R xs ys) (n : Nat) : All2 R (xs.take n) (ys.take n) := by
  refine ⟨by simp [k.1], fun i a b ha hb => ?_⟩
  rw [List.getElem?_take] at ha hb
  by_cases h : i < n
  · simp only [h, if_true] at ha hb; exact k.2 i a b ha hb
  · simp [h] at ha
theorem All2.append {α β : Type} {R : α → β → Prop} {xs xs' : List α} {ys ys' : List β} (k : All2 R xs ys) (k' : All2 R xs' ys') : All2 R (xs ++ xs') (ys ++ ys') := by
  refine ⟨by simp [k.1, k'.1], fun i a b ha hb => ?_⟩
  by_cases h : i < xs.length
  · rw [List.getElem?_append_left h] at ha
    rw [List.getElem?_append_left (by rw [← k.1]; exact h)] at hb
    exact k.2 i a b ha hb
  · rw [List.getElem?_append_right (by omega)] at ha
    rw [List.getElem?_append_right (by rw [← k.1]; omega), ← k.1] at hb
    exact k'.2 _ a b ha hb
theorem All2.map_right {α β γ : Type} {R : α → γ → Prop} (f : β → γ) {xs : List α} {ys : List β} (k : All2 (fun a b => R a (f b)) xs ys) : All2 R xs (ys.map f) := by
  refine ⟨by simp [k.1], fun i a b ha hb => ?_⟩
  rw [List.getElem?_map] at hb
  cases hy : ys[i]? with
  | none => simp [hy] at hb
  | some y => simp [hy] at hb; subst hb; exact k.2 i a y ha hy
theorem All2.of_map_right {α β γ : Type} {R : α → γ → Prop} (f : β → γ) {xs : List α} {ys : List β} (k : All2 R xs (ys.map f)) : All2 (fun a b => R a (f b)) xs ys :=
  ⟨by simpa using k.1, fun i a b ha hb => k.2 i a (f b) ha (by simp [hb])⟩

/-- What lay stays as it lay. -/
structure Up (Γ Γ' : Ctx) : Prop where
  F : ∀ a, Γ.F a → Γ'.F a ∧ Γ'.w.cell? a = Γ.w.cell? a
  ng : Γ.ng ≤ Γ'.ng
  glb : ∀ o, o < Γ.ng → Γ'.glb o = Γ.glb o
  box : ∀ k, Γ.bl k → Γ'.bl k ∧ Γ'.box k = Γ.box k
  tok : ∀ k n, Γ.len k = some n → ∃ n', Γ'.len k = some n' ∧ ((n' = n ∧ Γ'.tok k = Γ.tok k) ∨ n < n')

theorem Up.glo {Γ Γ' : Ctx} (u : Up Γ Γ') (o : Nat) (h : o < Γ.ng) : Γ'.glo o = Γ.glo o := by rw [Ctx.glo, u.glb o h]
theorem Up.refl (Γ : Ctx) : Up Γ Γ := ⟨fun a h => ⟨h, rfl⟩, Nat.le_refl _, fun _ _ => rfl, fun _ h => ⟨h, rfl⟩, fun k n h => ⟨n, h, .inl ⟨rfl, rfl⟩⟩⟩

theorem RW.up {Γ Γ' : Ctx} (u : Up Γ Γ') {v : Value} {x : W} (h : RW Γ v x) : RW Γ' v x := by
  cases x <;> simp only [RW] at h ⊢
  case d => exact h.mono u.F
  case full => exact ⟨h.1.mono u.F, h.2⟩
  case app k xs =>
    obtain ⟨h1, n, h2, h3, h4⟩ := h
    obtain ⟨n', h5, h6⟩ := u.tok k n h2
    refine ⟨h1.mono u.F, n', h5, ?_, ?_⟩
    · rcases h6 with ⟨rfl, _⟩ | h6 <;> omega
    · intro e
      rcases h6 with ⟨rfl, h6⟩ | h6
      · rw [h6]; exact h4 e
      · omega
  case box k off => obtain ⟨h1, h2⟩ := h; obtain ⟨h3, h4⟩ := u.box k h2; exact ⟨by rw [h4]; exact h1, h3⟩
  case glo o off => exact ⟨by rw [u.glo o h.2]; exact h.1, Nat.lt_of_lt_of_le h.2 u.ng⟩
  case ref cs =>
    obtain ⟨a, rfl, vs, h⟩ := h
    refine ⟨a, rfl, vs, fun j d hj => ?_⟩
    obtain ⟨h1, h2, h3⟩ := h j d hj
    obtain ⟨h4, h5⟩ := u.F _ h1
    exact ⟨h4, h5.trans h2, h3.mono u.F⟩
  case fn f caps =>
    refine ⟨?_, fun o ho => Nat.lt_of_lt_of_le (h.2 o ho) u.ng⟩
    rw [h.1]
    congr 2
    exact List.map_congr_left fun o ho => by rw [u.glo o (h.2 o ho)]
  case bsl k off n => obtain ⟨ad, c, h1, h2, h6, h3⟩ := h; obtain ⟨h4, h5⟩ := u.box k h3; exact ⟨ad, c, h1, by rw [h5]; exact h2, h6, h4⟩
  case gsl o off n m z => obtain ⟨c, h1, h2, h3, h4, h5, h6⟩ := h; exact ⟨c, by rw [u.glo o h6]; exact h1, h2, h3, h4, by rw [Ctx.gsz, u.glb o h6]; exact h5, Nat.lt_of_lt_of_le h6 u.ng⟩
  case row cs n z =>
    obtain ⟨⟨h1, h2⟩, h3, h4⟩ := h
    refine ⟨⟨h1.mono u.F, h2⟩, h3, fun ad m e j hj => ?_⟩
    obtain ⟨A, k1, k2⟩ := h4 ad m e j hj
    obtain ⟨k3, k4⟩ := u.F _ k1
    exact ⟨A, k3, k4.trans k2⟩
  case nil => exact h
theorem RC.up {Γ Γ' : Ctx} (u : Up Γ Γ') {v : Value} {x : C} (h : RC Γ v x) : RC Γ' v x := by
  cases x with
  | w x => exact RW.up u h
  | agg xs => obtain ⟨cs, rfl, h1, h2⟩ := h; exact ⟨cs, rfl, h1.mono fun _ _ => RW.up u, h2⟩
theorem RV.up {Γ Γ' : Ctx} (u : Up Γ Γ') {v : Value} {x : V} (h : RV Γ v x) : RV Γ' v x := by
  cases x with
  | c x => exact RC.up u h
  | tup xs => obtain ⟨cs, rfl, h1⟩ := h; exact ⟨cs, rfl, h1.mono fun _ _ => RC.up u⟩

/-- New blocks alone. -/
structure Grow (Γ Γ' : Ctx) : Prop where
  box : Γ'.box = Γ.box
  bl : Γ'.bl = Γ.bl
  tok : Γ'.tok = Γ.tok
  len : Γ'.len = Γ.len
  glb : Γ'.glb = Γ.glb
  ng : Γ'.ng = Γ.ng
  own : Γ'.own = Γ.own
  os : Γ'.w.os = Γ.w.os
  tape : Γ'.w.tape = Γ.w.tape
  output : Γ'.w.output = Γ.w.output
  size : Γ.w.heap.size ≤ Γ'.w.heap.size
  block : ∀ g, g < Γ.w.heap.size → Γ'.w.heap[g]? = Γ.w.heap[g]?
  F : ∀ a, Γ.F a → Γ'.F a
  Fnew : ∀ a, Γ'.F a → Γ.F a ∨ (Γ.w.heap.size ≤ a.block ∧ a.block < Γ'.w.heap.size)
  drawn : Γ.w.drawn ≤ Γ'.w.drawn
/-- The same, without a word on draws. -/
structure Grow0 (Γ Γ' : Ctx) : Prop where
  box : Γ'.box = Γ.box
  bl : Γ'.bl = Γ.bl
  tok : Γ'.tok = Γ.tok
  len : Γ'.len = Γ.len
  glb : Γ'.glb = Γ.glb
  ng : Γ'.ng = Γ.ng
  own : Γ'.own = Γ.own
  os : Γ'.w.os = Γ.w.os
  tape : Γ'.w.tape = Γ.w.tape
  output : Γ'.w.output = Γ.w.output
  size : Γ.w.heap.size ≤ Γ'.w.heap.size
  block : ∀ g, g < Γ.w.heap.size → Γ'.w.heap[g]? = Γ.w.heap[g]?
  F : ∀ a, Γ.F a → Γ'.F a
  Fnew : ∀ a, Γ'.F a → Γ.F a ∨ (Γ.w.heap.size ≤ a.block ∧ a.block < Γ'.w.heap.size)
theorem Grow.weak {Γ Γ' : Ctx} (g : Grow Γ Γ') : Grow0 Γ Γ' := ⟨g.box, g.bl, g.tok, g.len, g.glb, g.ng, g.own, g.os, g.tape, g.output, g.size, g.block, g.F, g.Fnew⟩
theorem Grow.refl (Γ : Ctx) : Grow Γ Γ := ⟨rfl, rfl, rfl, rfl, rfl, rfl, rfl, rfl, rfl, rfl, Nat.le_refl _, fun _ _ => rfl, fun _ h => h, fun _ h => .inl h, Nat.le_refl _⟩
theorem cell_of_block {w w' : World} {a : Addr} (h : w'.heap[a.block]? = w.heap[a.block]?) : w'.cell? a = w.cell? a := by simp [World.cell?, h]

/-- What a range over a function leaves behind among a call's deferred calls. -/
def markD (D : Nat) : Deferred := { target := .collected D, args := #[] }
def Marks (Γ : Ctx) (B : Nat) (l : List Deferred) : Prop := ∃ ds : List Nat, l = ds.map markD ∧ ds.Nodup ∧ ∀ D ∈ ds, Γ.w.heap[D]? = some (.deferred (some [])) ∧ B ≤ D ∧ Γ.own D = some .mark
theorem Marks.nil {Γ : Ctx} {B : Nat} : Marks Γ B [] := ⟨[], rfl, .nil, by simp⟩
theorem Marks.go {Γ Γ' : Ctx} {B : Nat} {l : List Deferred} (h : Marks Γ B l) (k : ∀ D, Γ.own D = some .mark → Γ.w.heap[D]? = some (.deferred (some [])) → Γ'.w.heap[D]? = Γ.w.heap[D]? ∧ Γ'.own D = some .mark) : Marks Γ' B l := by
  obtain ⟨ds, h1, h0, h2⟩ := h
  refine ⟨ds, h1, h0, fun D hD => ?_⟩
  obtain ⟨e1, e2, e3⟩ := h2 D hD
  obtain ⟨k1, k2⟩ := k D e3 e1
  exact ⟨k1.trans e1, e2, k2⟩

/-- The state s tells the slots and the memory of a running call, whose blocks begin at B. -/
structure Inv (Γ : Ctx) (B : Nat) (s : St) (a : Act) : Prop where
  defers : Marks Γ B a.defers
  size : a.tmps.size = s.sl.length
  slots : ∀ (i : Nat) v x, a.tmps[i]? = some v → s.sl[i]? = some x → RV Γ v x
  len : ∀ k, Γ.len k = (look s.tk k).map (·.n)
  bl : ∀ k, Γ.bl k ↔ ((look s.bx k).isSome = true ∨ (look s.it k).isSome = true)
  ng : Γ.ng = s.gl.length
  boxes : ∀ k cs, look s.bx k = some cs → ∃ vs ty, Γ.w.heap[Γ.box k]? = some (.cells vs ty (0, 0)) ∧ B ≤ Γ.box k ∧ All2 (RW Γ) vs.toList cs ∧ Γ.own (Γ.box k) = some (.box k) ∧ ∀ u ∈ vs.toList, u.oneCell' = true
  toks : ∀ k t, look s.tk k = some t → ∃ g cap cur, Γ.tok k = .slice (some ⟨g, 0, none⟩) t.n cap ∧ Γ.w.heap[g]? = some (.cells cur t.e (0, 0)) ∧ t.n ≤ cap ∧ cap ≤ maxLen ∧ cur.size = cap * t.sz ∧
    B ≤ g ∧ Γ.own g = some (.tok k) ∧ 0 < t.n ∧ ∀ a, Γ.F a → a.block = g → a.off < t.n * t.sz
  globs : ∀ (o : Nat) cs, s.gl[o]? = some cs → cs ≠ [] → ∃ vs ty, Γ.w.heap[Γ.glo o]? = some (.cells vs ty (0, 0)) ∧ All2 (RW Γ) (vs.toList.take cs.length) cs ∧ Γ.own (Γ.glo o) = some (.glo o) ∧ (∀ u ∈ vs.toList, u.oneCell' = true) ∧ (∀ c ∈ cs, W.free c = true) ∧ vs.size = Γ.gsz o
  fix : ∀ a, Γ.F a → a.block < Γ.w.heap.size ∧ (Γ.own a.block = none ∨ ∃ k, Γ.own a.block = some (.tok k))
  ownlt : ∀ g, Γ.own g ≠ none → g < Γ.w.heap.size
  base : B ≤ Γ.w.heap.size
  its : ∀ k p, look s.it k = some p → Γ.w.heap[Γ.box k]? = some (.stringIter ⟨p.1.toArray⟩ p.2) ∧ B ≤ Γ.box k ∧ Γ.own (Γ.box k) = some (.box k) ∧ p.1.length ≤ maxLen

theorem Inv.up_of_grow0 {Γ Γ' : Ctx} {B : Nat} {s : St} {a : Act} (h : Inv Γ B s a) (g : Grow0 Γ Γ') : Up Γ Γ' := by
  refine ⟨fun a ha => ⟨g.F a ha, cell_of_block (g.block _ (h.fix a ha).1)⟩, by rw [g.ng]; exact Nat.le_refl _, fun _ _ => by rw [g.glb], fun k hk => by rw [g.bl, g.box]; exact ⟨hk, rfl⟩, fun k n hk => ⟨n, by rw [g.len]; exact hk, .inl ⟨rfl, by rw [g.tok]⟩⟩⟩
theorem Inv.grow0 {Γ Γ' : Ctx} {B : Nat} {s : St} {a : Act} (h : Inv Γ B s a) (g : Grow0 Γ Γ') : Inv Γ' B s a := by
  have u := h.up_of_grow0 g
  refine ⟨h.defers.go fun D e _ => ⟨g.block D (h.ownlt D (by simp [e])), by rw [g.own]; exact e⟩, h.size, fun i v x hv hx => (h.slots i v x hv hx).up u, by rw [g.len]; exact h.len, by rw [g.bl]; exact h.bl, by rw [g.ng]; exact h.ng, ?_, ?_, ?_, ?_, ?_, Nat.le_trans h.base g.size, fun k p hk => by
    obtain ⟨e1, e2, e3, e4⟩ := h.its k p hk
    exact ⟨by rw [g.box, g.block _ (h.ownlt _ (by simp [e3]))]; exact e1, by rw [g.box]; exact e2, by rw [g.box, g.own]; exact e3, e4⟩⟩
  · intro k cs hk
    obtain ⟨vs, ty, h1, h2, h3, h4, h5⟩ := h.boxes k cs hk
    exact ⟨vs, ty, by rw [g.box, g.block _ (h.ownlt _ (by simp [h4]))]; exact h1, by rw [g.box]; exact h2, h3.mono fun _ _ => RW.up u, by rw [g.box, g.own]; exact h4, h5⟩
  · intro k t hk
    obtain ⟨b, cap, cur, h1, h2, h3, h4, h5, h6, h7, h8, h9⟩ := h.toks k t hk
    have hlt := h.ownlt b (by simp [h7])
    refine ⟨b, cap, cur, by rw [g.tok]; exact h1, by rw [g.block _ hlt]; exact h2, h3, h4, h5, h6, by rw [g.own]; exact h7, h8, fun a ha hb => ?_⟩
    rcases g.Fnew a ha with ha | ⟨ha, _⟩
    · exact h9 a ha hb
    · omega
  · intro o cs ho hne
    obtain ⟨vs, ty, h1, h2, h3, h4, h5, h6⟩ := h.globs o cs ho hne
    have e : Γ'.glo o = Γ.glo o := by rw [Ctx.glo, g.glb]
    exact ⟨vs, ty, by rw [e, g.block _ (h.ownlt _ (by simp [h3]))]; exact h1, h2.mono fun _ _ => RW.up u, by rw [e, g.own]; exact h3, h4, h5, by rw [Ctx.gsz, g.glb]; exact h6⟩
  · intro a ha
    rcases g.Fnew a ha with ha | ⟨ha, hb⟩
    · have := h.fix a ha
      exact ⟨Nat.lt_of_lt_of_le this.1 g.size, by rw [g.own]; exact this.2⟩
    · refine ⟨hb, .inl ?_⟩
      rw [g.own]
      cases ho : Γ.own a.block with
      | none => rfl
      | some o => have := h.ownlt a.block (by simp [ho]); omega
  · intro b hb
    rw [g.own] at hb
    exact Nat.lt_of_lt_of_le (h.ownlt b hb) g.size

theorem Inv.up_of_grow {Γ Γ' : Ctx} {B : Nat} {s : St} {a : Act} (h : Inv Γ B s a) (g : Grow Γ Γ') : Up Γ Γ' := h.up_of_grow0 g.weak
theorem Inv.grow {Γ Γ' : Ctx} {B : Nat} {s : St} {a : Act} (h : Inv Γ B s a) (g : Grow Γ Γ') : Inv Γ' B s a := h.grow0 g.weak

/-! operands -/
theorem constW_sound {Γ : Ctx} {v : Value} {x : W} (h : constW v = some x) : RW Γ v x ∧ v.oneCell' = true ∧ x.known = true := by
  unfold constW at h
  split at h
  · cases h; exact ⟨RD.int _ _, rfl, rfl⟩
  · cases h; exact ⟨RD.bool _, rfl, rfl⟩
  · split at h
    · rename_i s hs; cases h; exact ⟨RD.str s _ rfl hs, rfl, rfl⟩
    · cases h
  · cases h; exact ⟨rfl, rfl, rfl⟩
  · cases h
    exact ⟨⟨RD.sl none 0 0 0 [] (fun _ _ => .nilFunc) rfl (Nat.le_refl _) (by simp [maxLen]) (fun _ => rfl) (by simp) (fun a ha => by cases ha) (by simp), _, _, rfl⟩, rfl, rfl⟩
  · cases h
theorem constWs_sound {Γ : Ctx} : ∀ {vs : List Value} {xs : List W}, constWs vs = some xs → All2 (RW Γ) vs xs ∧ (∀ u ∈ vs, u.oneCell' = true) ∧ xs.all W.known = true
  | [], xs, h => by simp [constWs] at h; subst h; exact ⟨All2.nil, by simp, rfl⟩
  | v :: r, xs, h => by
    simp only [constWs, Option.bind_eq_some_iff, Option.map_eq_some_iff] at h
    obtain ⟨a, ha, b, hb, rfl⟩ := h
    obtain ⟨h1, h2, h5⟩ := constW_sound (Γ := Γ) ha
    obtain ⟨h3, h4, h6⟩ := constWs_sound (Γ := Γ) hb
    exact ⟨All2.cons h1 h3, by simpa using ⟨h2, h4⟩, by simp [h5, h6]⟩
theorem constC_sound {Γ : Ctx} {v : Value} {x : C} (h : constC v = some x) : RC Γ v x ∧ x.known = true := by
  unfold constC at h
  split at h
  · rw [Option.map_eq_some_iff] at h
    obtain ⟨xs, hx, rfl⟩ := h
    obtain ⟨h1, h2, h3⟩ := constWs_sound (Γ := Γ) hx
    exact ⟨⟨_, rfl, h1, h2⟩, h3⟩
  · cases h
  · rw [Option.map_eq_some_iff] at h
    obtain ⟨y, hy, rfl⟩ := h
    exact ⟨(constW_sound hy).1, (constW_sound (Γ := Γ) hy).2.2⟩
theorem get_sound {Γ : Ctx} {B : Nat} {s : St} {a : Act} (h : Inv Γ B s a) (t : Nat) : RV Γ (a.tmps.getD t undef) (s.get t) := by
  unfold St.get
  by_cases ht : t < s.sl.length
  · have ht' : t < a.tmps.size := by rw [h.size]; exact ht
    rw [List.getD_eq_getElem?_getD, List.getElem?_eq_getElem ht, Array.getD_eq_getD_getElem?, Array.getElem?_eq_getElem ht']
    exact h.slots t _ _ (Array.getElem?_eq_getElem ht') (List.getElem?_eq_getElem ht)
  · rw [List.getD_eq_getElem?_getD, List.getElem?_eq_none (by omega)]
    trivial
theorem ev_sound {Γ : Ctx} {B : Nat} {s : St} {a : Act} (h : Inv Γ B s a) {o : Operand} {x : V} (he : s.ev o = some x) : RV Γ (a.eval o) x := by
  unfold St.ev at he
  split at he
  · cases he; exact get_sound h _
  · unfold constV at he
    split at he
    · cases he; trivial
    · rw [Option.map_eq_some_iff] at he
      obtain ⟨c, hc, rfl⟩ := he
      exact (constC_sound hc).1
  · cases he
    exact ⟨by simp [Act.eval], by simp⟩
  · cases he
theorem comp_sound {Γ : Ctx} {v : Value} {x : V} {c : C} (h : RV Γ v x) (hc : V.comp x = some c) : RC Γ v c ∧ c.known = true := by
  unfold V.comp at hc
  split at hc
  · split at hc
    · cases hc; exact ⟨h, by assumption⟩
    · cases hc
  · cases hc
theorem RC.cells {Γ : Ctx} {v : Value} {c : C} (h : RC Γ v c) (hk : c.known = true) : All2 (RW Γ) v.cells.toList c.cells ∧ ∀ u ∈ v.cells.toList, u.oneCell' = true := by
  cases c with
  | w x =>
    obtain ⟨h1, h2⟩ := RW.oneCell h hk
    rw [h2]
    exact ⟨All2.cons h All2.nil, by simpa using h1⟩
  | agg xs => obtain ⟨cs, rfl, h1, h2⟩ := h; exact ⟨h1, h2⟩
end Go.Proofs.YtckonoejmjblfaaGreatDoor.Ev

/- The operations that turn nothing: what the plain evaluator says of them is what the machine does. -/
set_option linter.unusedVariables false
set_option linter.unusedSimpArgs false
namespace Go.Proofs.YtckonoejmjblfaaGreatDoor.Ev
open Go Go.RowKit

theorem add_add (a : Addr) (x y : Nat) : (a.add x).add y = a.add (x + y) := by
  unfold Addr.add
  by_cases hx : x = 0 <;> by_cases hy : y = 0 <;> simp [hx, hy, Nat.add_assoc]
theorem add_plain (g o n : Nat) : (⟨g, o, none⟩ : Addr).add n = ⟨g, o + n, none⟩ := by unfold Addr.add; split <;> simp_all
theorem add_block (a : Addr) (n : Nat) : (a.add n).block = a.block := by unfold Addr.add; split <;> rfl

theorem cut_spec {α : Type} {cs r : List α} {off n : Nat} (h : cut cs off n = some r) : off + n ≤ cs.length ∧ r = (cs.drop off).take n ∧ r.length = n := by
  unfold cut at h
  split at h
  · cases h; exact ⟨by assumption, rfl, by simp; omega⟩
  · cases h
theorem cut_get {α : Type} {cs r : List α} {off n j : Nat} (h : cut cs off n = some r) (hj : j < n) : r[j]? = cs[off + j]? := by
  obtain ⟨_, rfl, _⟩ := cut_spec h
  rw [List.getElem?_take_of_lt hj, List.getElem?_drop]

section
variable {P : Program} {Γ : Ctx}

theorem run_szOf {t : TypeId} {n : Nat} (h : szOf P t = some n) (w : World) : (sizeOf t).run P w = .ok n w := by
  unfold szOf at h
  rw [Option.map_eq_some_iff] at h
  obtain ⟨i, hi, rfl⟩ := h
  simp [sizeOf, typeInfo, hi]
theorem run_isAggT {t : TypeId} {b : Bool} (h : isAggT P t = some b) (w : World) : (isAgg t).run P w = .ok b w := by
  unfold isAggT at h
  rw [Option.map_eq_some_iff] at h
  obtain ⟨d, hd, rfl⟩ := h
  simp only [isAgg, Sem.run_bind, run_underlying hd, Result.andThen_ok]
  cases d <;> rfl
theorem zeroC_spec {t : TypeId} {c : C} (h : zeroC P t = some c) : ∃ i z, P.info? t = some i ∧ i.zero = some z ∧ constC z = some c := by
  unfold zeroC at h
  rw [Option.bind_eq_some_iff] at h
  obtain ⟨i, hi, h⟩ := h
  rw [Option.bind_eq_some_iff] at h
  obtain ⟨z, hz, h⟩ := h
  exact ⟨i, z, hi, hz, h⟩
theorem run_zeroC {t : TypeId} {c : C} (h : zeroC P t = some c) : ∃ z, constC z = some c ∧ ∀ w, (zeroValue t).run P w = .ok z w := by
  obtain ⟨i, z, hi, hz, hc⟩ := zeroC_spec h
  exact ⟨z, hc, fun w => by simp [zeroValue, typeInfo, hi, hz]⟩

theorem elems_sound {v : Value} {x : W} {xs : List (List D)} (h : RW Γ v x) (hx : W.elems x = some xs) : RD Γ.F Γ.w v (.sl xs) := by
  unfold W.elems at hx
  split at hx
  · cases hx; exact h
  · cases hx; exact h.1
  · cases hx; exact h.1
  · cases hx; exact h.1.1
  · cases hx

theorem move_sound {v : Value} {x y : W} {off : Nat} (h : RW Γ v x) (hm : W.move x off = some y) : ∃ a, v = .pointer (some a) ∧ RW Γ (.pointer (some (a.add off))) y := by
  unfold W.move at hm
  split at hm
  · cases hm
    obtain ⟨a, rfl, vs, h⟩ := h
    refine ⟨a, rfl, a.add off, rfl, fun j => vs (off + j), fun j d hj => ?_⟩
    rw [add_add]
    exact h (off + j) d (by simpa using hj)
  · cases hm
    obtain ⟨rfl, h2⟩ := h
    exact ⟨_, rfl, by rw [add_plain]; rfl, h2⟩
  · cases hm
    obtain ⟨rfl, h2⟩ := h
    exact ⟨_, rfl, by rw [add_plain]; rfl, h2⟩
  · cases hm

theorem cell_of_heap {w : World} {g : Nat} {vs : Array Value} {ty : TypeId} {fr : Nat × Nat} (h : w.heap[g]? = some (.cells vs ty fr)) (o : Nat) : w.cell? ⟨g, o, none⟩ = vs[o]? := by simp [World.cell?, h]

theorem cellsAt_sound {B : Nat} {s : St} {a : Act} (hI : Inv Γ B s a) {v : Value} {x : W} {n : Nat} {ws : List W} (h : RW Γ v x) (hc : s.cellsAt x n = some ws) :
    ∃ ad, v = .pointer (some ad) ∧ ∃ vs : List Value, vs.length = n ∧ All2 (RW Γ) vs ws ∧ (∀ u ∈ vs, u.oneCell' = true) ∧ ∀ (j : Nat) u, vs[j]? = some u → Γ.w.cell? (ad.add j) = some u := by
  have plain : ∀ (g off : Nat) (vs : Array Value) (ty : TypeId) (cs : List W), Γ.w.heap[g]? = some (.cells vs ty (0, 0)) → All2 (RW Γ) (vs.toList.take cs.length) cs → (∀ u ∈ vs.toList, u.oneCell' = true) → cut cs off n = some ws →
      ∃ us : List Value, us.length = n ∧ All2 (RW Γ) us ws ∧ (∀ u ∈ us, u.oneCell' = true) ∧ ∀ (j : Nat) u, us[j]? = some u → Γ.w.cell? ((⟨g, off, none⟩ : Addr).add j) = some u := by
    intro g off vs ty cs hg ha h1 hcut
    obtain ⟨hle, rfl, hlen⟩ := cut_spec hcut
    have hle2 : cs.length ≤ vs.size := by have := ha.1; simp at this; omega
    have e : (vs.toList.drop off).take n = ((vs.toList.take cs.length).drop off).take n := by
      rw [List.drop_take, List.take_take, Nat.min_eq_left (by omega)]
    refine ⟨(vs.toList.drop off).take n, by simp; omega, by rw [e]; exact (ha.drop off).take n, fun u hu => h1 u (List.mem_of_mem_drop (List.mem_of_mem_take hu)), fun j u hu => ?_⟩
    rw [add_plain, cell_of_heap hg]
    rw [List.getElem?_take] at hu
    split at hu
    · simpa using hu
    · cases hu
  unfold St.cellsAt at hc
  split at hc
  · rw [Option.map_eq_some_iff] at hc
    obtain ⟨ds, hds, rfl⟩ := hc
    obtain ⟨ad, rfl, vs, h⟩ := h
    obtain ⟨hle, rfl, hlen⟩ := cut_spec hds
    refine ⟨ad, rfl, (List.range n).map vs, by simp, ⟨by simp; omega, fun i u b hu hb => ?_⟩, fun u hu => ?_, fun j u hu => ?_⟩
    · simp only [List.getElem?_map] at hu hb
      simp only [List.drop_zero, List.getElem?_take] at hb
      by_cases hi : i < n
      · simp only [List.getElem?_range hi, Option.map_some, Option.some.injEq] at hu
        simp only [hi, if_true] at hb
        rw [Option.map_eq_some_iff] at hb
        obtain ⟨d, hd, rfl⟩ := hb
        subst hu
        exact (h i d hd).2.2
      · simp [hi] at hb
    · rw [List.mem_map] at hu
      obtain ⟨j, hj, rfl⟩ := hu
      rw [List.mem_range] at hj
      exact (h j _ (List.getElem?_eq_getElem (by omega))).2.2.oneCell.1
    · have hjl : j < n := by have := (List.getElem?_eq_some_iff.1 hu).1; simpa using this
      rw [List.getElem?_map, List.getElem?_range hjl] at hu
      simp only [Option.map_some, Option.some.injEq] at hu
      subst hu
      exact (h j _ (List.getElem?_eq_getElem (by omega))).2.1
  · rename_i k off
    rw [Option.bind_eq_some_iff] at hc
    obtain ⟨cs, hcs, hc⟩ := hc
    obtain ⟨vs, ty, h1, _, h3, _, h5⟩ := hI.boxes k cs hcs
    obtain ⟨rfl, _⟩ := h
    obtain ⟨us, hu⟩ := plain _ off vs ty cs h1 (by rw [← h3.1, List.take_length]; exact h3) h5 hc
    exact ⟨_, rfl, us, hu⟩
  · rename_i o off
    rw [Option.bind_eq_some_iff] at hc
    obtain ⟨cs, hcs, hc⟩ := hc
    by_cases hne : cs = []
    · subst hne
      obtain ⟨rfl, _⟩ := h
      obtain ⟨h1, rfl, h3⟩ := cut_spec hc
      simp at h1 h3
      exact ⟨_, rfl, [], by simp; omega, by simp [All2.nil], by simp, by simp⟩
    obtain ⟨vs, ty, h1, h3, _, h5, _⟩ := hI.globs o cs hcs hne
    obtain ⟨rfl, _⟩ := h
    obtain ⟨us, hu⟩ := plain _ off vs ty cs h1 h3 h5 hc
    exact ⟨_, rfl, us, hu⟩
  · cases hc

theorem loadC_sound {B : Nat} {s : St} {a : Act} (hI : Inv Γ B s a) {v : Value} {x : V} {t : TypeId} {c : C} (h : RV Γ v x) (hc : s.loadC P t x = some c) :
    ∃ ad, v = .pointer (some ad) ∧ ∃ u, (loadVar t ad).run P Γ.w = .ok u Γ.w ∧ RC Γ u c := by
  unfold St.loadC at hc
  split at hc
  · rename_i y
    rw [Option.bind_eq_some_iff] at hc
    obtain ⟨n, hn, hc⟩ := hc
    rw [Option.bind_eq_some_iff] at hc
    obtain ⟨ws, hws, hc⟩ := hc
    obtain ⟨ad, rfl, vs, hl, ha, h1, hcell⟩ := cellsAt_sound hI h hws
    refine ⟨ad, rfl, ?_⟩
    unfold pack at hc
    rw [Option.bind_eq_some_iff] at hc
    obtain ⟨b, hb, hc⟩ := hc
    cases b with
    | true =>
      simp only [Option.some.injEq] at hc
      subst hc
      have hr := run_loadCells_list (P := P) (w := Γ.w) ad vs hcell
      rw [hl] at hr
      refine ⟨.agg vs.toArray, ?_, vs.toArray, rfl, by simpa using ha, by simpa using h1⟩
      simp [loadVar, run_isAggT hb, run_szOf hn, hr]
    | false =>
      simp only at hc
      split at hc
      · rename_i z
        cases hc
        obtain ⟨u, r, rfl, hu, hr⟩ := ha.uncons
        have h0 := hcell 0 u rfl
        have : ad.add 0 = ad := by simp [Addr.add]
        rw [this] at h0
        refine ⟨u, ?_, hu⟩
        simp [loadVar, run_isAggT hb, h0]
      · cases hc
  · cases hc

theorem run_fieldPlace {f : Field} {n : Nat} (hn : szOf P f.type = some n) (h0 : n ≠ 0) (a : Addr) (w : World) : (fieldPlace a f).run P w = .ok (a.add f.offset) w := by
  simp [fieldPlace, run_szOf hn, h0]
theorem fieldAddr_sound {v : Value} {x y : V} {t : TypeId} {j : Nat} (h : RV Γ v x) (hx : fieldAddrA P t x j = some y) : ∃ u, (Instr.fieldAt t v j).run P Γ.w = .ok u Γ.w ∧ RV Γ u y := by
  unfold fieldAddrA at hx
  split at hx
  · rename_i fs z hu
    simp only [Option.bind_eq_some_iff] at hx
    obtain ⟨f, hf, n, hn, hx⟩ := hx
    split at hx
    · cases hx
    · rename_i h0
      rw [Option.map_eq_some_iff] at hx
      obtain ⟨y, hy, rfl⟩ := hx
      obtain ⟨a, rfl, hr⟩ := move_sound h hy
      refine ⟨_, ?_, hr⟩
      simp [Instr.fieldAt, run_underlying hu, hf, Instr.sureAddr, run_fieldPlace hn h0]
  · cases hx

theorem intOf_sound {v : Value} {x : V} {n : Int} (h : RV Γ v x) (hx : intOfV x = some n) : ∃ k, v = .int k n := by
  unfold intOfV at hx
  split at hx
  · cases hx
    cases h
    exact ⟨_, rfl⟩
  · cases hx

theorem indexAddr_sound {v i : Value} {x iv y : V} {t : TypeId} (h : RV Γ v x) (hi : RV Γ i iv) (hx : indexAddrA P t x iv = some y) : ∃ u, (Instr.indexAt t v i).run P Γ.w = .ok u Γ.w ∧ RV Γ u y := by
  unfold indexAddrA at hx
  rw [Option.bind_eq_some_iff] at hx
  obtain ⟨n, hn, hx⟩ := hx
  obtain ⟨k, rfl⟩ := intOf_sound hi hn
  split at hx
  · rename_i len e x' hu
    rw [Option.bind_eq_some_iff] at hx
    obtain ⟨z, hz, hx⟩ := hx
    split at hx
    · rename_i hr
      have key : ∀ w', W.move x' (n.toNat * z) = some w' → ∃ u, (Instr.indexAt t v (.int k n)).run P Γ.w = .ok u Γ.w ∧ RV Γ u (.c (.w w')) := by
        intro w' hm
        obtain ⟨a, rfl, hr'⟩ := move_sound h hm
        refine ⟨_, ?_, hr'⟩
        simp [Instr.indexAt, asIntOf, run_underlying hu, Instr.sureAddr, hr, run_szOf hz]
      split at hx
      · rw [Option.map_eq_some_iff] at hx
        obtain ⟨y', hy, rfl⟩ := hx
        exact key y' hy
      · rw [Option.map_eq_some_iff] at hx
        obtain ⟨y', hy, rfl⟩ := hx
        exact key y' hy
      · rw [Option.map_eq_some_iff] at hx
        obtain ⟨y', hy, rfl⟩ := hx
        exact key y' hy
      · cases hx
    · cases hx
  · rename_i e o off m c z hu
    rw [Option.bind_eq_some_iff] at hx
    obtain ⟨z', hz, hx⟩ := hx
    split at hx
    · rename_i hr
      obtain ⟨rfl, hr1, hr2⟩ := hr
      cases hx
      obtain ⟨c', rfl, _, _, _, _, ho⟩ := h
      refine ⟨.pointer (some ((⟨Γ.glo o, off, none⟩ : Addr).add (n.toNat * z'))), ?_, by rw [add_plain]; rfl, ho⟩
      simp [Instr.indexAt, asIntOf, run_underlying hu, hr1, hr2, run_szOf hz]
    · cases hx
  · rename_i e x' _ hu
    simp only [Option.bind_eq_some_iff] at hx
    obtain ⟨xs, hxs, z, hz, hx⟩ := hx
    split at hx
    · rename_i hr
      rw [Option.bind_eq_some_iff] at hx
      obtain ⟨y', hy, hx⟩ := hx
      split at hx
      · rename_i hl
        cases hx
        have hd := elems_sound h hxs
        cases hd with
        | sl A m c sz _ vs hm hc hmx hA hsz hcell hdd =>
          have hlt : n.toNat < m := by omega
          cases A with
          | none => have := hA rfl; omega
          | some a =>
            have hs := hsz _ _ hy
            have hzz : sz = z := by omega
            subst hzz
            refine ⟨.pointer (some (a.add (n.toNat * sz))), ?_, a.add (n.toNat * sz), rfl, fun j => vs n.toNat j, fun j d hj => ?_⟩
            · have hr' : 0 ≤ n ∧ n < (m : Int) := by omega
              simp [Instr.indexAt, asIntOf, run_underlying hu, hr', run_szOf hz]
            · rw [add_add]
              have hjl : j < sz := by rw [← hs]; exact (List.getElem?_eq_some_iff.1 hj).1
              obtain ⟨h1, h2⟩ := hcell a rfl n.toNat j hlt hjl
              exact ⟨h1, h2, hdd n.toNat j y' d hy hj⟩
      · cases hx
    · cases hx
  · cases hx

theorem run_part {t : TypeId} {n off : Nat} {cs : Array Value} {ws ys : List W} {c : C} (hn : szOf P t = some n) (ha : All2 (RW Γ) cs.toList ws) (h1 : ∀ u ∈ cs.toList, u.oneCell' = true)
    (hc : cut ws off n = some ys) (hp : pack P t ys = some c) : ∃ u, (part t cs off).run P Γ.w = .ok u Γ.w ∧ RC Γ u c := by
  obtain ⟨hle, rfl, hl⟩ := cut_spec hc
  unfold pack at hp
  rw [Option.bind_eq_some_iff] at hp
  obtain ⟨b, hb, hp⟩ := hp
  have hal := ha.1
  simp at hal
  cases b with
  | true =>
    simp only [Option.some.injEq] at hp
    subst hp
    refine ⟨.agg (cs.extract off (off + n)), by simp [part, run_isAggT hb, run_szOf hn], _, rfl, ?_, fun u hu => h1 u ?_⟩
    · have he : (cs.extract off (off + n)).toList = (cs.toList.drop off).take n := by
        simp [List.extract_eq_take_drop]
      rw [he]
      exact (ha.drop off).take n
    · have he : (cs.extract off (off + n)).toList = (cs.toList.drop off).take n := by
        simp [List.extract_eq_take_drop]
      rw [he] at hu
      exact List.mem_of_mem_drop (List.mem_of_mem_take hu)
  | false =>
    simp only at hp
    split at hp
    · rename_i z hz
      cases hp
      have hn1 : n = 1 := by rw [← hl, hz]; rfl
      subst hn1
      have hoff : off < cs.size := by omega
      refine ⟨cs[off], by simp [part, run_isAggT hb, hoff], ?_⟩
      refine ha.2 off _ z (by simp [hoff]) ?_
      have := cut_get hc (show 0 < 1 by omega)
      rw [hz] at this
      simpa using this.symm
    · cases hp
theorem field_sound {v : Value} {x y : V} {t : TypeId} {j : Nat} (h : RV Γ v x) (hx : fieldA P t x j = some y) : ∃ u, (Instr.field t v j).run P Γ.w = .ok u Γ.w ∧ RV Γ u y := by
  unfold fieldA at hx
  split at hx
  · rename_i fs cs hu
    simp only [Option.bind_eq_some_iff, Option.map_eq_some_iff] at hx
    obtain ⟨f, hf, n, hn, ys, hys, c, hc, rfl⟩ := hx
    obtain ⟨vs, rfl, ha, h1⟩ := h
    obtain ⟨u, hr, hu'⟩ := run_part hn ha h1 hys hc
    exact ⟨u, by simp [Instr.field, run_underlying hu, hf, asAgg, hr], hu'⟩
  · cases hx

theorem str_size {s : ByteArray} {l : List UInt8} (h : s.data.toList = l) : s.size = l.length := by rw [← h, Array.length_toList]; rfl
theorem index_sound {v i : Value} {x iv y : V} {t : TypeId} (h : RV Γ v x) (hi : RV Γ i iv) (hx : indexA P t x iv = some y) : ∃ u, (Instr.index t v i).run P Γ.w = .ok u Γ.w ∧ RV Γ u y := by
  unfold indexA at hx
  rw [Option.bind_eq_some_iff] at hx
  obtain ⟨n, hn, hx⟩ := hx
  obtain ⟨k, rfl⟩ := intOf_sound hi hn
  split at hx
  · rename_i l hu
    split at hx
    · rename_i hr
      rw [Option.map_eq_some_iff] at hx
      obtain ⟨b, hb, rfl⟩ := hx
      cases h with
      | str s _ hl hs =>
        have hsz := str_size hl
        have hb' : s[n.toNat]? = some b := by
          have hlt : n.toNat < s.size := by omega
          rw [getElem?_pos s n.toNat hlt]
          congr 1
          have : l[n.toNat]? = some b := hb
          rw [← hl] at this
          have h2 := (List.getElem?_eq_some_iff.1 this).2
          rw [Array.getElem_toList] at h2
          exact h2
        refine ⟨.int .u8 b.toNat, ?_, RD.int _ _⟩
        simp [Instr.index, asIntOf, run_underlying hu, hr.1, hb']
    · cases hx
  · rename_i len e cs hu
    rw [Option.bind_eq_some_iff] at hx
    obtain ⟨z, hz, hx⟩ := hx
    split at hx
    · rename_i hr
      simp only [Option.bind_eq_some_iff, Option.map_eq_some_iff] at hx
      obtain ⟨ys, hys, c, hc, rfl⟩ := hx
      obtain ⟨vs, rfl, ha, h1⟩ := h
      obtain ⟨u, hr', hu'⟩ := run_part hz ha h1 hys hc
      exact ⟨u, by simp [Instr.index, asIntOf, run_underlying hu, hr, run_szOf hz, hr'], hu'⟩
    · cases hx
  · cases hx

theorem len_sound {v : Value} {x y : V} {t ty : TypeId} (h : RV Γ v x) (hx : lenA P t x = some y) : ∃ u, (Builtin.len_ #[t] ty #[v]).run P Γ.w = .ok u Γ.w ∧ RV Γ u y := by
  unfold lenA at hx
  split at hx
  · rename_i l hu
    cases hx
    cases h with
    | str s _ hl hs =>
      refine ⟨.int .i64 s.size, by simp [Builtin.len_, run_underlying hu, goInt], ?_⟩
      rw [str_size hl]
      exact RD.int _ _
  · rename_i n _ hu
    cases hx
    exact ⟨_, by simp [Builtin.len_, run_underlying hu, goInt], RD.int _ _⟩
  · rename_i e o off n m z hu
    cases hx
    obtain ⟨c, rfl, _⟩ := h
    exact ⟨_, by simp [Builtin.len_, run_underlying hu, goInt], RD.int _ _⟩
  · rename_i e x' _ hu
    rw [Option.map_eq_some_iff] at hx
    obtain ⟨xs, hxs, rfl⟩ := hx
    have hd := elems_sound h hxs
    cases hd with
    | sl A m c sz _ vs hm hc hmx hA hsz hcell hdd =>
      subst hm
      exact ⟨_, by simp [Builtin.len_, run_underlying hu, goInt], RD.int _ _⟩
  · cases hx
end
end Go.Proofs.YtckonoejmjblfaaGreatDoor.Ev

/- More operations that turn nothing: values built, slices cut, operators. -/
set_option linter.unusedVariables false
set_option linter.unusedSimpArgs false
namespace Go.Proofs.YtckonoejmjblfaaGreatDoor.Ev
open Go Go.RowKit

theorem foldl_set (off : Nat) : ∀ (vs : List Value) (k : Nat) (arr : Array Value), off + k + vs.length ≤ arr.size →
    ((vs.zipIdx k).foldl (fun cs (p : Value × Nat) => cs.setIfInBounds (off + p.2) p.1) arr).toList = arr.toList.take (off + k) ++ vs ++ arr.toList.drop (off + k + vs.length)
  | [], k, arr, h => by simp
  | v :: r, k, arr, h => by
    simp only [List.length_cons] at h
    simp only [List.zipIdx_cons, List.foldl_cons]
    rw [foldl_set off r (k + 1) (arr.setIfInBounds (off + k) v) (by simp; omega)]
    have hlt : off + k < arr.toList.length := by simp; omega
    simp only [Array.toList_setIfInBounds, List.length_cons]
    rw [show off + (k + 1) = (off + k) + 1 by omega, show off + k + (r.length + 1) = off + k + 1 + r.length by omega]
    rw [List.drop_set_of_lt (by omega), List.take_set, List.take_succ_eq_append_getElem hlt]
    rw [List.set_append_right _ _ (by simp; omega)]
    simp only [List.length_take, Nat.min_eq_left (Nat.le_of_lt hlt), Nat.sub_self, List.set_cons_zero, List.append_assoc, List.cons_append, List.nil_append]

theorem paste_spec {α : Type} {cs new r : List α} {off : Nat} (h : paste cs off new = some r) : off + new.length ≤ cs.length ∧ r = cs.take off ++ new ++ cs.drop (off + new.length) ∧ r.length = cs.length := by
  unfold paste at h
  split at h
  · cases h
    refine ⟨by assumption, rfl, ?_⟩
    simp only [List.length_append, List.length_take, List.length_drop]
    omega
  · cases h
theorem All2.paste {α β : Type} {R : α → β → Prop} {xs vs : List α} {ys ws r : List β} {off : Nat} (k : All2 R xs ys) (k' : All2 R vs ws) (h : paste ys off ws = some r) : All2 R (xs.take off ++ vs ++ xs.drop (off + vs.length)) r := by
  obtain ⟨_, rfl, _⟩ := paste_spec h
  rw [k'.1]
  exact ((k.take off).append k').append (k.drop _)

section
variable {P : Program} {Γ : Ctx}

theorem fill_sound (pl : Nat → Option (Nat × Nat)) : ∀ (ps : List (Nat × C)) (vs : List (Nat × Value)) (cells : Array Value) (ws r : List W), All2 (RW Γ) cells.toList ws → (∀ u ∈ cells.toList, u.oneCell' = true) →
    All2 (fun (a : Nat × Value) (b : Nat × C) => a.1 = b.1 ∧ RC Γ a.2 b.2 ∧ b.2.known = true) vs ps → fillW pl ws ps = some r →
    ∃ cells' : Array Value, Instr.fill pl cells vs = some cells' ∧ All2 (RW Γ) cells'.toList r ∧ ∀ u ∈ cells'.toList, u.oneCell' = true
  | [], vs, cells, ws, r, h, h1, hp, hf => by
    have := hp.nil_iff
    subst this
    simp only [fillW, Option.some.injEq] at hf
    subst hf
    exact ⟨cells, rfl, h, h1⟩
  | (i, c) :: ps, vs, cells, ws, r, h, h1, hp, hf => by
    obtain ⟨⟨i', v⟩, vs', rfl, ⟨rfl, hc, hk⟩, hp'⟩ := hp.uncons
    simp only [fillW, Option.bind_eq_some_iff] at hf
    obtain ⟨⟨off, size⟩, hpl, hf⟩ := hf
    split at hf
    · rename_i hsz
      rw [Option.bind_eq_some_iff] at hf
      obtain ⟨ws', hpaste, hf⟩ := hf
      obtain ⟨hcells, hone⟩ := hc.cells hk
      obtain ⟨hle, _, _⟩ := paste_spec hpaste
      simp only at hle hsz
      have hl1 := hcells.1
      have hl2 := h.1
      simp only [Array.length_toList] at hl1 hl2
      have hfold := foldl_set off v.cells.toList 0 cells (by simp; omega)
      simp only [Nat.add_zero] at hfold
      have key := fill_sound pl ps vs' (v.cells.zipIdx.foldl (fun cs (p : Value × Nat) => cs.setIfInBounds (off + p.2) p.1) cells) ws' r
        (by rw [← Array.foldl_toList, Array.toList_zipIdx, hfold]; exact h.paste hcells hpaste)
        (by
          rw [← Array.foldl_toList, Array.toList_zipIdx, hfold]
          intro u hu
          simp only [List.mem_append] at hu
          rcases hu with (hu | hu) | hu
          · exact h1 u (List.mem_of_mem_take hu)
          · exact hone u hu
          · exact h1 u (List.mem_of_mem_drop hu)) hp' hf
      obtain ⟨cells', hfill, hr⟩ := key
      refine ⟨cells', ?_, hr⟩
      simp only [Instr.fill, hpl]
      rw [if_neg (by simp; omega)]
      exact hfill
    · cases hf

theorem parts_sound {B : Nat} {s : St} {a : Act} (hI : Inv Γ B s a) : ∀ (l : List (Nat × Operand)) (ps : List (Nat × C)), partsOf s l = some ps →
    All2 (fun (a : Nat × Value) (b : Nat × C) => a.1 = b.1 ∧ RC Γ a.2 b.2 ∧ b.2.known = true) (l.map fun (p : Nat × Operand) => (p.1, a.eval p.2)) ps
  | [], ps, h => by simp only [partsOf, Option.some.injEq] at h; subst h; exact All2.nil
  | (i, x) :: r, ps, h => by
    simp only [partsOf, Option.bind_eq_some_iff, Option.map_eq_some_iff] at h
    obtain ⟨v, hv, c, hc, b, hb, rfl⟩ := h
    obtain ⟨h1, h2⟩ := comp_sound (ev_sound hI hv) hc
    exact All2.cons ⟨rfl, h1, h2⟩ (parts_sound hI r b hb)

theorem run_places (w : World) : ∀ (fs : List Field) (pl : List (Nat × Nat)), placesA P fs = some pl → (fs.mapM (m := Sem) fun f => do pure (f.offset, ← sizeOf f.type)).run P w = .ok pl w
  | [], pl, h => by simp only [placesA, Option.some.injEq] at h; subst h; simp
  | f :: r, pl, h => by
    simp only [placesA, Option.bind_eq_some_iff, Option.map_eq_some_iff] at h
    obtain ⟨n, hn, b, hb, rfl⟩ := h
    simp only [List.mapM_cons, Sem.run_bind, run_szOf hn, Result.andThen_ok, Sem.run_pure, run_places w r b hb]

theorem build_sound {B : Nat} {s : St} {a : Act} (hI : Inv Γ B s a) {t : TypeId} {l : Array (Nat × Operand)} {x : V} (hx : buildA P s t l.toList = some x) :
    ∃ u, (Instr.build t (l.map fun (i, x) => (i, a.eval x))).run P Γ.w = .ok u Γ.w ∧ RV Γ u x := by
  unfold buildA at hx
  simp only [Option.bind_eq_some_iff] at hx
  obtain ⟨z, hz, ps, hps, hx⟩ := hx
  obtain ⟨z0, hz0, hrun⟩ := run_zeroC hz
  obtain ⟨hc, hk⟩ := constC_sound (Γ := Γ) hz0
  obtain ⟨hcells, hone⟩ := hc.cells hk
  have hp := parts_sound hI _ _ hps
  have hl : (l.map fun (p : Nat × Operand) => (p.1, a.eval p.2)).toList = l.toList.map fun (p : Nat × Operand) => (p.1, a.eval p.2) := by simp
  rw [← hl] at hp
  split at hx
  · rename_i fs hu
    rw [Option.bind_eq_some_iff] at hx
    obtain ⟨pl, hpl, hx⟩ := hx
    rw [Option.map_eq_some_iff] at hx
    obtain ⟨ws, hws, rfl⟩ := hx
    obtain ⟨cells', hf, h1, h2⟩ := fill_sound (fun (i : Nat) => pl[i]?) ps _ _ _ _ hcells hone hp hws
    refine ⟨.agg cells', ?_, cells', rfl, h1, h2⟩
    have hm : (fs.mapM (m := Sem) fun f => do pure (f.offset, ← sizeOf f.type)).run P Γ.w = .ok pl.toArray Γ.w := by
      rw [Array.mapM_eq_mapM_toList, Sem.run_map, run_places Γ.w _ _ hpl]
      rfl
    have hf' : Instr.fill (fun (x : Nat) => pl.toArray[x]?) z0.cells (l.map fun (p : Nat × Operand) => (p.1, a.eval p.2)).toList = some cells' := by
      have : (fun (x : Nat) => pl.toArray[x]?) = fun (i : Nat) => pl[i]? := by funext i; simp
      rw [this]
      exact hf
    simp only [Instr.build, Sem.run_bind, hrun, Result.andThen_ok, run_underlying hu, hm, hf', Sem.run_pure]
  · rename_i n e hu
    rw [Option.bind_eq_some_iff] at hx
    obtain ⟨n', hn, hx⟩ := hx
    rw [Option.map_eq_some_iff] at hx
    obtain ⟨ws, hws, rfl⟩ := hx
    obtain ⟨cells', hf, h1, h2⟩ := fill_sound (fun i => some (i * n', n')) ps _ _ _ _ hcells hone hp hws
    refine ⟨.agg cells', ?_, cells', rfl, h1, h2⟩
    simp only [Instr.build, Sem.run_bind, hrun, Result.andThen_ok, run_underlying hu, run_szOf hn, hf, Sem.run_pure]
  · cases hx

theorem close_sound {v : Value} {x : W} {d : D} (h : RW Γ v x) (hx : W.close x = some d) : RD Γ.F Γ.w v d := by
  unfold W.close at hx
  split at hx
  · cases hx; exact h
  · cases hx; exact h.1
  · cases hx; exact h.1
  · cases hx; exact h.1.1
  · cases hx
theorem rowCells_spec : ∀ {ws : List W} {ds : List D}, closes ws = some ds → (rowCells ws ds).map orE = ds ∧ (rowCells ws ds).length = ws.length ∧ ∀ j : Nat, (rowCells ws ds)[j]? = some none → ws[j]? = some (.full [])
  | [], ds, h => by
    simp only [closes, Option.some.injEq] at h
    subst h
    exact ⟨rfl, rfl, fun j h => by simp [rowCells] at h⟩
  | w :: r, ds, h => by
    simp only [closes, Option.bind_eq_some_iff, Option.map_eq_some_iff] at h
    obtain ⟨d, hd, b, hb, rfl⟩ := h
    obtain ⟨h1, h2, h3⟩ := rowCells_spec hb
    have hw : bareW w = true → w = .full [] := fun e => by
      unfold bareW at e
      split at e
      · rfl
      · cases e
    refine ⟨?_, by simp [rowCells, h2], fun j hj => ?_⟩
    · rw [rowCells, List.map_cons, h1]
      by_cases hb' : bareW w = true
      · rw [if_pos hb']
        rw [hw hb'] at hd
        simp only [W.close, Option.some.injEq] at hd
        rw [← hd]
        rfl
      · rw [if_neg hb']; rfl
    · cases j with
      | zero =>
        simp only [rowCells, List.getElem?_cons_zero, Option.some.injEq] at hj
        by_cases hb' : bareW w = true
        · rw [hw hb']; rfl
        · rw [if_neg hb'] at hj; cases hj
      | succ j =>
        simp only [rowCells, List.getElem?_cons_succ] at hj ⊢
        exact h3 j hj
theorem closes_sound : ∀ {vs : List Value} {ws : List W} {ds : List D}, All2 (RW Γ) vs ws → closes ws = some ds → All2 (RD Γ.F Γ.w) vs ds
  | vs, [], ds, h, hx => by
    simp only [closes, Option.some.injEq] at hx
    subst hx
    rw [h.nil_iff]
    exact All2.nil
  | vs, x :: r, ds, h, hx => by
    simp only [closes, Option.bind_eq_some_iff, Option.map_eq_some_iff] at hx
    obtain ⟨d, hd, b, hb, rfl⟩ := hx
    obtain ⟨v, vs', rfl, h1, h2⟩ := h.uncons
    exact All2.cons (close_sound h1 hd) (closes_sound h2 hb)

theorem repeatW_len (z : List W) : ∀ n, (repeatW n z).length = n * z.length
  | 0 => by simp [repeatW]
  | n + 1 => by simp [repeatW, repeatW_len z n, Nat.add_mul]; omega
theorem repeatW_get (z : List W) (hz : 0 < z.length) : ∀ (n i : Nat), i < n * z.length → (repeatW n z)[i]? = z[i % z.length]?
  | 0, i, h => by simp at h
  | n + 1, i, h => by
    simp only [repeatW]
    by_cases hi : i < z.length
    · rw [List.getElem?_append_left hi, Nat.mod_eq_of_lt hi]
    · rw [List.getElem?_append_right (by omega), repeatW_get z hz n (i - z.length) (by have := Nat.add_mul n 1 z.length; omega)]
      congr 1
      exact (Nat.mod_eq_sub_mod (by omega)).symm
theorem chunk_len {α : Type} (sz : Nat) : ∀ (n : Nat) (cs : List α), (chunk sz n cs).length = n
  | 0, _ => rfl
  | n + 1, cs => by simp [chunk, chunk_len sz n]
theorem chunk_get {α : Type} (sz : Nat) : ∀ (n : Nat) (cs : List α) (i : Nat) (x : List α), (chunk sz n cs)[i]? = some x → x = (cs.drop (i * sz)).take sz
  | 0, cs, i, x, h => by simp [chunk] at h
  | n + 1, cs, 0, x, h => by simp [chunk] at h; subst h; simp
  | n + 1, cs, i + 1, x, h => by
    simp only [chunk, List.getElem?_cons_succ] at h
    rw [chunk_get sz n _ i x h, List.drop_drop]
    congr 2
    rw [Nat.add_mul]
    omega

/-- A new block of closed cells is a slice that nobody writes. -/
def Ctx.fresh (Γ : Ctx) (w' : World) : Ctx := { Γ with w := w', F := fun a => Γ.F a ∨ (a.block = Γ.w.heap.size) }
theorem grow_fresh {w' : World} (hos : w'.os = Γ.w.os) (ht : w'.tape = Γ.w.tape) (ho : w'.output = Γ.w.output) (hs : w'.heap.size = Γ.w.heap.size + 1) (hb : ∀ g, g < Γ.w.heap.size → w'.heap[g]? = Γ.w.heap[g]?) (hdr : Γ.w.drawn ≤ w'.drawn := by exact Nat.le_refl _) : Grow Γ (Γ.fresh w') :=
  ⟨rfl, rfl, rfl, rfl, rfl, rfl, rfl, hos, ht, ho, by simp [Ctx.fresh, hs], hb, fun a ha => .inl ha, fun a ha => by
    rcases ha with ha | ha
    · exact .inl ha
    · exact .inr ⟨by simp only [ha]; exact Nat.le_refl _, by simp [Ctx.fresh, ha, hs]⟩, hdr⟩
theorem slice_fresh {B : Nat} {s : St} {a : Act} (hI : Inv Γ B s a) {w' : World} (hg : Grow Γ (Γ.fresh w')) {cells : Array Value} {e : TypeId} {fr : Nat × Nat} (hh : w'.heap[Γ.w.heap.size]? = some (.cells cells e fr))
    {ds : List D} {n sz cap : Nat} (ha : All2 (RD Γ.F Γ.w) (cells.toList.take ds.length) ds) (hl : ds.length = n * sz) (hc : n ≤ cap) (hm : cap ≤ maxLen) :
    RD (Γ.fresh w').F w' (.slice (some ⟨Γ.w.heap.size, 0, none⟩) n cap) (.sl (chunk sz n ds)) := by
  have u := hI.up_of_grow hg
  have hsize : ds.length ≤ cells.size := by have := ha.1; simp at this; omega
  have hge : ∀ i j, i < n → j < sz → i * sz + j < ds.length := fun i j hi hj => by
    rw [hl]
    calc i * sz + j < i * sz + sz := by omega
      _ = (i + 1) * sz := by rw [Nat.add_mul]; omega
      _ ≤ n * sz := Nat.mul_le_mul_right _ hi
  refine .sl (some ⟨Γ.w.heap.size, 0, none⟩) n cap sz _ (fun i j => cells.getD (i * sz + j) undef) (chunk_len _ _ _) hc hm (fun h => by cases h) (fun i x hx => ?_) (fun a ha' i j hi hj => ?_) (fun i j x d hx hd => ?_)
  · have hi : i < n := by have := (List.getElem?_eq_some_iff.1 hx).1; rwa [chunk_len] at this
    rw [chunk_get sz n ds i x hx]
    simp only [List.length_take, List.length_drop, hl]
    have : (i + 1) * sz ≤ n * sz := Nat.mul_le_mul_right _ hi
    rw [Nat.add_mul] at this
    omega
  · cases ha'
    have := hge i j hi hj
    refine ⟨.inr (by rw [add_block]), ?_⟩
    rw [add_plain, Nat.zero_add, cell_of_heap hh]
    rw [Array.getD_eq_getD_getElem?, Array.getElem?_eq_getElem (by omega)]
    rfl
  · have hi : i < n := by have := (List.getElem?_eq_some_iff.1 hx).1; rwa [chunk_len] at this
    have hxx := chunk_get sz n ds i x hx
    rw [hxx, List.getElem?_take] at hd
    split at hd
    · rename_i hj
      rw [List.getElem?_drop] at hd
      have hlt := hge i j hi hj
      have := ha.2 (i * sz + j) (cells.getD (i * sz + j) undef) d (by
        rw [List.getElem?_take_of_lt hlt, Array.getElem?_toList, Array.getD_eq_getD_getElem?, Array.getElem?_eq_getElem (by omega)]; rfl) hd
      exact this.mono u.F
    · cases hd

theorem buildSlice_sound {B : Nat} {s : St} {a : Act} (hI : Inv Γ B s a) {t : TypeId} {len : Nat} {l : Array (Nat × Operand)} {x : V} (hx : buildSliceA P s t len l.toList = some x) :
    ∃ Γ' u, (Instr.buildSlice t len (l.map fun (i, x) => (i, a.eval x))).run P Γ.w = .ok u Γ'.w ∧ RV Γ' u x ∧ Grow Γ Γ' := by
  unfold buildSliceA at hx
  split at hx
  · rename_i e hu
    simp only [Option.bind_eq_some_iff] at hx
    obtain ⟨n, hn, z, hz, ps, hps, hx⟩ := hx
    split at hx
    · rename_i hcond
      obtain ⟨hzl, hn0, hbig⟩ := hcond
      simp only [Option.bind_eq_some_iff, Option.map_eq_some_iff] at hx
      obtain ⟨ws, hws, ds, hds, rfl⟩ := hx
      obtain ⟨z0, hz0, hrun⟩ := run_zeroC hz
      obtain ⟨hc, hk⟩ := constC_sound (Γ := Γ) hz0
      obtain ⟨hcells, hone⟩ := hc.cells hk
      have hzs : z0.cells.size = n := by have := hcells.1; simp at this; omega
      have hp := parts_sound hI _ _ hps
      have hl : (l.map fun (p : Nat × Operand) => (p.1, a.eval p.2)).toList = l.toList.map fun (p : Nat × Operand) => (p.1, a.eval p.2) := by simp
      rw [← hl] at hp
      have hinit : All2 (RW Γ) (((Array.range (len * n)).map fun i => z0.cells[i % z0.cells.size]!).toList) (repeatW len z.cells) := by
        refine ⟨by simp [repeatW_len, hzl], fun i u b hu hb => ?_⟩
        have hi : i < len * n := by have := (List.getElem?_eq_some_iff.1 hu).1; simpa using this
        rw [repeatW_get z.cells (by omega) len i (by rw [hzl]; exact hi), hzl] at hb
        have hmod : i % n < n := Nat.mod_lt _ hn0
        simp only [Array.toList_map, Array.toList_range, List.getElem?_map, List.getElem?_range hi, Option.map_some, Option.some.injEq] at hu
        subst hu
        refine hcells.2 (i % n) _ b ?_ hb
        rw [hzs, Array.getElem?_toList, getElem!_pos z0.cells (i % n) (by omega), Array.getElem?_eq_getElem (by omega)]
      have hone' : ∀ u ∈ ((Array.range (len * n)).map fun i => z0.cells[i % z0.cells.size]!).toList, u.oneCell' = true := by
        intro u hu
        simp only [Array.toList_map, Array.toList_range, List.mem_map, List.mem_range] at hu
        obtain ⟨i, hi, rfl⟩ := hu
        have hmod : i % n < n := Nat.mod_lt _ hn0
        rw [hzs, getElem!_pos z0.cells (i % n) (by omega)]
        exact hone _ (by simp)
      obtain ⟨cells', hf, h1, h2⟩ := fill_sound (fun i => some (i * n, n)) ps _ _ _ _ hinit hone' hp hws
      have hcl := closes_sound h1 hds
      have hcs : cells'.size = len * n := by
        have a1 := h1.1
        have : ∀ (ps : List (Nat × C)) (ws r : List W), fillW (fun i => some (i * n, n)) ws ps = some r → r.length = ws.length := by
          intro ps
          induction ps with
          | nil => intro ws r h; simp only [fillW, Option.some.injEq] at h; rw [h]
          | cons p ps ih =>
            intro ws r h
            obtain ⟨i, c⟩ := p
            simp only [fillW, Option.bind_eq_some_iff] at h
            obtain ⟨q, hq, h⟩ := h
            split at h
            · rw [Option.bind_eq_some_iff] at h
              obtain ⟨ws', hp', h⟩ := h
              rw [ih _ _ h, (paste_spec hp').2.2]
            · cases h
        have a2 := this _ _ _ hws
        rw [repeatW_len, hzl] at a2
        simp at a1
        omega
      have hg := grow_fresh (Γ := Γ) (w' := { Γ.w with heap := Γ.w.heap.push (.cells cells' e (0, 0)) }) rfl rfl rfl (by simp) (fun g hg => by rw [Array.getElem?_push, if_neg (by omega)])
      have hdl : ds.length = len * n := by have := hcl.1; simp at this; omega
      have hrow : RD (Γ.fresh { Γ.w with heap := Γ.w.heap.push (.cells cells' e (0, 0)) }).F { Γ.w with heap := Γ.w.heap.push (.cells cells' e (0, 0)) } (.slice (some ⟨Γ.w.heap.size, 0, none⟩) len len) (.sl (chunk n len ds)) → RW (Γ.fresh { Γ.w with heap := Γ.w.heap.push (.cells cells' e (0, 0)) }) (.slice (some ⟨Γ.w.heap.size, 0, none⟩) len len) (rowW ws len n ds) := fun hrd => by
        unfold rowW
        split
        · obtain ⟨r1, r2, r3⟩ := rowCells_spec hds
          refine ⟨⟨by rw [r1]; exact hrd, _, _, rfl⟩, by rw [r2, ← h1.1]; simpa using hcs, fun ad m e' j hj => ?_⟩
          cases e'
          have hj' := r3 j hj
          have hjl : j < cells'.size := by
            have := (List.getElem?_eq_some_iff.1 hj').1
            have := h1.1
            simp at this
            omega
          obtain ⟨hq, A, n', hv⟩ := h1.2 j cells'[j] (.full []) (by rw [Array.getElem?_toList, Array.getElem?_eq_getElem hjl]) hj'
          rw [hv] at hq
          have hn' : n' = 0 := by cases hq with | sl _ _ _ _ _ _ hm => simpa using hm.symm
          subst hn'
          refine ⟨A, .inr (by rw [add_plain]), ?_⟩
          rw [add_plain, Nat.zero_add, cell_of_heap (vs := cells') (ty := e) (fr := (0, 0)) (show (Γ.w.heap.push (.cells cells' e (0, 0)))[Γ.w.heap.size]? = some (.cells cells' e (0, 0)) from by simp), Array.getElem?_eq_getElem hjl, hv]
        · exact ⟨hrd, _, _, rfl⟩
      refine ⟨Γ.fresh { Γ.w with heap := Γ.w.heap.push (.cells cells' e (0, 0)) }, .slice (some ⟨Γ.w.heap.size, 0, none⟩) len len, ?_, hrow ?_, hg⟩
      · simp only [Instr.buildSlice, Sem.run_bind, run_underlying hu, Result.andThen_ok, run_szOf hn]
        rw [if_neg (by omega)]
        by_cases h0 : len * n = 0
        · have hlen0 : len = 0 := by
            rcases Nat.mul_eq_zero.1 h0 with h | h <;> omega
          subst hlen0
          simp only [Nat.zero_mul] at hf hinit hcs ⊢
          have hfill : Instr.fill (fun i => some (i * n, n)) ((Array.range 0).map fun i => (#[] : Array Value)[i % (#[] : Array Value).size]!) (l.map fun (p : Nat × Operand) => (p.1, a.eval p.2)).toList = some cells' := by
            have e0 : ∀ (f : Nat → Value), (Array.range 0).map f = #[] := fun f => Array.eq_empty_of_size_eq_zero (by simp)
            rw [e0] at hf ⊢
            exact hf
          simp only [if_true, Sem.run_pure, Result.andThen_ok, Sem.run_bind, hfill, newRow, run_newObj]
          rfl
        · simp only [h0, if_false, Sem.run_bind, Sem.run_map, hrun, Result.andThen_ok, Sem.run_pure, hf, newRow, run_newObj]
          rfl
      · exact slice_fresh hI hg (cells := cells') (e := e) (fr := (0, 0)) (by simp) (by rw [hdl, List.take_of_length_le (by simp [hcs])]; exact hcl) hdl (Nat.le_refl _) (by
          have : len ≤ len * n := Nat.le_mul_of_pos_right _ hn0
          simp only [maxLen]; omega)
    · cases hx
  · cases hx
end
end Go.Proofs.YtckonoejmjblfaaGreatDoor.Ev
