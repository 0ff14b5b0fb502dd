/- Layer 5: terms as trees. -/
import Derived.Test.YtckonoejmjblfaaGreatDoorPkTrmB
import Derived.Test.YtckonoejmjblfaaGreatDoorPkLib
set_option linter.unusedVariables false
set_option linter.unusedSimpArgs false
namespace Go.Proofs.YtckonoejmjblfaaGreatDoor.Ev
open Go Go.RowKit

/-- A loop's first round; for loops that are told round by round. -/
theorem loop_unroll {f : St → Option (Ex × St)} {keep res : List Nat} {n : Nat} {s : St} : loopA f keep res (n + 1) s = (f (s.hav keep)).bind fun r => match r with
    | (.normal, s') => loopA f keep res n s'
    | r => some (exitHav keep res r) := by
  simp only [loopA, iter]
  cases f (s.hav keep) with
  | none => rfl
  | some r => obtain ⟨e, s'⟩ := r; cases e <;> rfl
inductive Tr where
  | leaf (t : Tm)
  | one (t : Tm) (a : Tr)
  | two (t : Tm) (a b : Tr)
def Tr.flat : Tr → List Tm
  | .leaf t => [t]
  | .one t a => t :: a.flat
  | .two t a b => t :: (a.flat ++ b.flat)
def Tr.wf : Tr → Prop
  | .leaf t => arity t.op = 0
  | .one t a => arity t.op = 1 ∧ a.wf
  | .two t a b => arity t.op = 2 ∧ a.wf ∧ b.wf
def Tr.top : Tr → Tm
  | .leaf t => t
  | .one t _ => t
  | .two t _ _ => t
theorem Tr.flat_top (e : Tr) : ∃ r, e.flat = e.top :: r := by cases e <;> exact ⟨_, rfl⟩
theorem Tr.flat_pos (e : Tr) : 0 < e.flat.length := by obtain ⟨r, h⟩ := e.flat_top; rw [h]; simp
def flats : List Tr → List Tm
  | [] => []
  | e :: r => e.flat ++ flats r
/-- What so many terms are, from the last one on. -/
def stk : List Tm → Option (List Tr)
  | [] => some []
  | t :: r => (stk r).bind fun s =>
    if arity t.op = 0 then some (.leaf t :: s)
    else if arity t.op = 1 then (match s with | a :: s' => some (.one t a :: s') | [] => none)
    else if arity t.op = 2 then (match s with | a :: b :: s' => some (.two t a b :: s') | _ => none)
    else none
theorem arity_cases (x : Int) : arity x = -1 ∨ arity x = 0 ∨ arity x = 1 ∨ arity x = 2 := by
  unfold arity
  split
  · exact .inl rfl
  · split
    · exact .inl rfl
    · split
      · exact .inr (.inr (.inl rfl))
      · split
        · exact .inr (.inl rfl)
        · exact .inr (.inr (.inr rfl))
/-- How a term goes on a stack. -/
theorem stk_cons {t : Tm} {r : List Tm} {s : List Tr} (h : stk (t :: r) = some s) :
    (arity t.op = 0 ∧ ∃ s', stk r = some s' ∧ s = .leaf t :: s') ∨ (arity t.op = 1 ∧ ∃ a s', stk r = some (a :: s') ∧ s = .one t a :: s') ∨ (arity t.op = 2 ∧ ∃ a b s', stk r = some (a :: b :: s') ∧ s = .two t a b :: s') := by
  rw [stk, Option.bind_eq_some_iff] at h
  obtain ⟨s', hs, h⟩ := h
  split at h
  · cases h; exact .inl ⟨by assumption, s', hs, rfl⟩
  · split at h
    · rename_i h1
      split at h
      · cases h; exact .inr (.inl ⟨h1, _, _, hs, rfl⟩)
      · cases h
    · split at h
      · rename_i h2
        split at h
        · cases h; exact .inr (.inr ⟨h2, _, _, _, hs, rfl⟩)
        · cases h
      · cases h
theorem stk_spec : ∀ {l : List Tm} {s : List Tr}, stk l = some s → flats s = l ∧ ∀ e ∈ s, e.wf
  | [], s, h => by simp only [stk, Option.some.injEq] at h; subst h; exact ⟨rfl, by simp⟩
  | t :: r, s, h => by
    rcases stk_cons h with ⟨ha, s', hs, rfl⟩ | ⟨ha, a, s', hs, rfl⟩ | ⟨ha, a, b, s', hs, rfl⟩
    · obtain ⟨h1, h2⟩ := stk_spec hs
      refine ⟨by simp [flats, Tr.flat, h1], fun e he => ?_⟩
      rcases List.mem_cons.1 he with rfl | he
      · exact ha
      · exact h2 e he
    · obtain ⟨h1, h2⟩ := stk_spec hs
      refine ⟨by simp [flats, Tr.flat, ← h1], fun e he => ?_⟩
      rcases List.mem_cons.1 he with rfl | he
      · exact ⟨ha, h2 a (by simp)⟩
      · exact h2 e (by simp [he])
    · obtain ⟨h1, h2⟩ := stk_spec hs
      refine ⟨by simp [flats, Tr.flat, ← h1], fun e he => ?_⟩
      rcases List.mem_cons.1 he with rfl | he
      · exact ⟨ha, h2 a (by simp), h2 b (by simp)⟩
      · exact h2 e (by simp [he])
theorem stk_flat : ∀ (e : Tr) (r : List Tm) (s : List Tr), e.wf → stk r = some s → stk (e.flat ++ r) = some (e :: s)
  | .leaf t, r, s, h, hs => by
    simp only [Tr.wf] at h
    simp [Tr.flat, stk, hs, h]
  | .one t a, r, s, h, hs => by
    simp only [Tr.wf] at h
    have := stk_flat a r s h.2 hs
    simp [Tr.flat, stk, this, h.1]
  | .two t a b, r, s, h, hs => by
    simp only [Tr.wf] at h
    have h1 := stk_flat b r s h.2.2 hs
    have h2 := stk_flat a (b.flat ++ r) (b :: s) h.2.1 h1
    simp [Tr.flat, stk, List.append_assoc, h2, h.1]
theorem stk_whole (e : Tr) (h : e.wf) : stk e.flat = some [e] := by
  have := stk_flat e [] [] h rfl
  simpa using this
theorem stk_suffix : ∀ {l : List Tm} {s : List Tr} (i : Nat), stk l = some s → i ≤ l.length → ∃ s', stk (l.drop i) = some s'
  | l, s, 0, h, _ => ⟨s, h⟩
  | [], s, i + 1, h, hi => by simp at hi
  | t :: r, s, i + 1, h, hi => by
    rw [stk, Option.bind_eq_some_iff] at h
    obtain ⟨s', hs, _⟩ := h
    exact stk_suffix i hs (by simpa using hi)
theorem stk_skip : ∀ (e : Tr) {l : List Tm} {s : List Tr}, stk l = some (e :: s) → stk (l.drop e.flat.length) = some s := by
  intro e l s h
  obtain ⟨h1, h2⟩ := stk_spec h
  have hl : l = e.flat ++ flats s := by rw [← h1]; rfl
  have : ∀ (s : List Tr), (∀ e ∈ s, e.wf) → stk (flats s) = some s := by
    intro s
    induction s with
    | nil => intro _; rfl
    | cons a s ih => intro hs; exact stk_flat a _ _ (hs a (by simp)) (ih fun e he => hs e (by simp [he]))
  rw [hl, List.drop_left]
  exact this s fun e he => h2 e (by simp [he])
/-- The first expression's end. -/
theorem eat_flats : ∀ (s : List Tr) (r : List Tm), (∀ e ∈ s, e.wf) → eat s.length (flats s ++ r) = some (flats s).length
  | [], r, _ => by cases r <;> rfl
  | .leaf t :: s, r, h => by
    have h0 := h _ List.mem_cons_self
    simp only [Tr.wf] at h0
    have ih := eat_flats s r fun e he => h e (by simp [he])
    simp only [List.length_cons, flats, Tr.flat, List.singleton_append, List.cons_append, eat]
    rw [if_neg (by omega), h0]
    simp [ih]
  | .one t a :: s, r, h => by
    have h0 := h _ List.mem_cons_self
    simp only [Tr.wf] at h0
    have ih := eat_flats (a :: s) r fun e he => by
      rcases List.mem_cons.1 he with rfl | he
      · exact h0.2
      · exact h e (by simp [he])
    simp only [List.length_cons, flats, Tr.flat, List.cons_append, eat]
    rw [if_neg (by omega), h0.1]
    simp only [List.length_cons, flats, List.append_assoc] at ih
    simp [ih]
  | .two t a b :: s, r, h => by
    have h0 := h _ List.mem_cons_self
    simp only [Tr.wf] at h0
    have ih := eat_flats (a :: b :: s) r fun e he => by
      rcases List.mem_cons.1 he with rfl | he
      · exact h0.2.1
      · rcases List.mem_cons.1 he with rfl | he
        · exact h0.2.2
        · exact h e (by simp [he])
    simp only [List.length_cons, flats, Tr.flat, List.cons_append, eat]
    rw [if_neg (by omega), h0.1]
    simp only [List.length_cons, flats, List.append_assoc] at ih
    simp [ih]
termination_by s => (flats s).length
decreasing_by
  all_goals simp [flats, Tr.flat]
theorem eat_stk : ∀ (l : List Tm) (a : Nat), eat a l = some l.length → ∃ s, stk l = some s ∧ s.length = a
  | [], 0, _ => ⟨[], rfl, rfl⟩
  | [], a + 1, h => by simp [eat] at h
  | t :: r, 0, h => by simp [eat] at h
  | t :: r, a + 1, h => by
    rw [eat] at h
    split at h
    · cases h
    · rename_i hp
      rw [Option.map_eq_some_iff] at h
      obtain ⟨m, hm, he⟩ := h
      have hmr : m = r.length := by simp at he; omega
      subst hmr
      obtain ⟨s, hs, hl⟩ := eat_stk r _ hm
      rcases arity_cases t.op with h0 | h0 | h0 | h0
      · omega
      · exact ⟨.leaf t :: s, by simp [stk, hs, h0], by simp [hl, h0]⟩
      · rw [h0] at hl
        match s, hl with
        | x :: s', hl => exact ⟨.one t x :: s', by simp [stk, hs, h0], by simp at hl ⊢; omega⟩
      · rw [h0] at hl
        match s, hl with
        | x :: y :: s', hl => exact ⟨.two t x y :: s', by simp [stk, hs, h0], by simp at hl ⊢; omega⟩
        | [x], hl => simp at hl
/-- Terms that are one expression. -/
theorem whole_tree (l : List Tm) : endV l 0 = l.length ↔ ∃ e : Tr, e.wf ∧ l = e.flat := by
  constructor
  · intro h
    unfold endV at h
    rw [List.drop_zero] at h
    cases he : eat 1 l with
    | none => rw [he] at h; simp at h
    | some k =>
      rw [he] at h
      simp at h
      have hk : k = l.length := by omega
      subst hk
      obtain ⟨s, hs, hl⟩ := eat_stk l 1 he
      obtain ⟨e, rfl⟩ := List.length_eq_one_iff.1 hl
      obtain ⟨h1, h2⟩ := stk_spec hs
      exact ⟨e, h2 e (by simp), by rw [← h1]; simp [flats]⟩
  · rintro ⟨e, h, rfl⟩
    have := eat_flats [e] [] (by simpa using h)
    simp [flats] at this
    unfold endV
    rw [List.drop_zero, this]
    simp
/-- Where an expression's end is told, and where those below it begin. -/
theorem endV_at (p r : List Tm) (e : Tr) (h : e.wf) : endV (p ++ (e.flat ++ r)) p.length = (p.length + e.flat.length : Nat) := by
  have := eat_flats [e] r (by simpa using h)
  simp [flats] at this
  unfold endV
  rw [List.drop_left, this]
  simp
theorem bel_leaf (l : List Tm) (i : Nat) : bel l 0 i = [] := rfl
theorem eat_at {l p r : List Tm} {i : Nat} (e : Tr) (h : e.wf) (hp : l = p ++ (e.flat ++ r)) (hi : i = p.length) : eat 1 (l.drop i) = some e.flat.length := by
  subst hp
  subst hi
  have := eat_flats [e] r (by simpa using h)
  simp [flats] at this
  rw [List.drop_left, this]
theorem bel_one (p r : List Tm) (a : Tr) (h : a.wf) (t : Tm) : bel (p ++ t :: (a.flat ++ r)) 1 (p.length + 1) = [p.length + 1] := rfl
theorem bel_two (p r : List Tm) (a b : Tr) (h : a.wf) (t : Tm) : bel (p ++ t :: (a.flat ++ r)) 2 (p.length + 1) = [p.length + 1, p.length + 1 + a.flat.length] := by
  have : eat 1 ((p ++ t :: (a.flat ++ r)).drop (p.length + 1)) = some a.flat.length := eat_at (p := p ++ [t]) (r := r) a h (by simp) (by simp)
  simp only [bel, this, Option.getD_some]
/-- Each place of a whole expression is where one begins. -/
theorem sub_at {e : Tr} (h : e.wf) {i : Nat} (hi : i < e.flat.length) : ∃ a s, stk (e.flat.drop i) = some (a :: s) ∧ a.wf ∧ e.flat = e.flat.take i ++ (a.flat ++ flats s) := by
  obtain ⟨s, hs⟩ := stk_suffix i (stk_whole e h) (by omega)
  obtain ⟨h1, h2⟩ := stk_spec hs
  cases s with
  | nil =>
    have : (e.flat.drop i).length = 0 := by rw [← h1]; rfl
    simp at this
    omega
  | cons a s =>
    refine ⟨a, s, hs, h2 a (by simp), ?_⟩
    conv => lhs; rw [← List.take_append_drop i e.flat, ← h1]
    rfl
/-- What a tree comes to. -/
def Tr.fo (mk : Int → List Int → Int) : Tr → Int
  | .leaf t => mk t.op []
  | .one t a => mk t.op [a.fo mk]
  | .two t a b => mk t.op [a.fo mk, b.fo mk]
/-- What each place's expression comes to. -/
def foV (mk : Int → List Int → Int) (l : List Tm) : Int :=
  match stk l with
  | some (a :: _) => a.fo mk
  | _ => 0
def foVs (mk : Int → List Int → Int) : List Tm → List Int
  | [] => []
  | t :: r => foV mk (t :: r) :: foVs mk r
theorem foVs_len (mk : Int → List Int → Int) : ∀ l, (foVs mk l).length = l.length
  | [] => rfl
  | t :: r => by simp [foVs, foVs_len mk r]
theorem foVs_get (mk : Int → List Int → Int) : ∀ (l : List Tm) (i : Nat), i < l.length → (foVs mk l)[i]? = some (foV mk (l.drop i))
  | [], i, h => by simp at h
  | t :: r, 0, h => rfl
  | t :: r, i + 1, h => by simp only [foVs, List.getElem?_cons_succ, List.drop_succ_cons]; exact foVs_get mk r i (by simpa using h)
def Tr.dep : Tr → Nat
  | .leaf _ => 1
  | .one _ a => a.dep + 1
  | .two _ a b => max a.dep b.dep + 1
theorem Tr.dep_le (e : Tr) : e.dep ≤ e.flat.length := by
  induction e with
  | leaf t => simp [Tr.dep, Tr.flat]
  | one t a ih => simp [Tr.dep, Tr.flat]; omega
  | two t a b ih1 ih2 => simp [Tr.dep, Tr.flat]; omega
def foldD (mk : Int → List Int → Int) (l : List Tm) : Int := if wholeB l then foV mk l else 0
theorem foldD_tree (mk : Int → List Int → Int) (e : Tr) (h : e.wf) (hl : e.flat.length ≤ 40) : foldD mk e.flat = e.fo mk := by
  have : wholeB e.flat = true := by
    unfold wholeB
    simp [hl, (whole_tree e.flat).2 ⟨e, h, rfl⟩]
  unfold foldD
  rw [if_pos this]
  simp [foV, stk_whole e h]
/-- An expression stands at a place. -/
def Tr.At (e : Tr) (l : List Tm) (i : Nat) : Prop := ∃ p r, l = p ++ (e.flat ++ r) ∧ i = p.length
theorem Tr.At.root (e : Tr) : e.At e.flat 0 := ⟨[], [], by simp, rfl⟩
theorem Tr.At.le {e : Tr} {l : List Tm} {i : Nat} (h : e.At l i) : i + e.flat.length ≤ l.length := by
  obtain ⟨p, r, rfl, rfl⟩ := h
  simp
theorem Tr.At.lt {e : Tr} {l : List Tm} {i : Nat} (h : e.At l i) : i < l.length := by have := h.le; have := e.flat_pos; omega
theorem Tr.At.top {e : Tr} {l : List Tm} {i : Nat} (h : e.At l i) : l[i]? = some e.top := by
  obtain ⟨p, r, rfl, rfl⟩ := h
  obtain ⟨q, hq⟩ := e.flat_top
  rw [List.getElem?_append_right (Nat.le_refl _), hq]
  simp
theorem Tr.At.stop {e : Tr} {l : List Tm} {i : Nat} (h : e.At l i) (hw : e.wf) : endV l i = (i + e.flat.length : Nat) := by
  obtain ⟨p, r, rfl, rfl⟩ := h
  exact endV_at p r e hw
theorem Tr.At.one {t : Tm} {a : Tr} {l : List Tm} {i : Nat} (h : (Tr.one t a).At l i) : a.At l (i + 1) := by
  obtain ⟨p, r, rfl, rfl⟩ := h
  exact ⟨p ++ [t], r, by simp [Tr.flat], by simp⟩
theorem Tr.At.two {t : Tm} {a b : Tr} {l : List Tm} {i : Nat} (h : (Tr.two t a b).At l i) : a.At l (i + 1) ∧ b.At l (i + 1 + a.flat.length) := by
  obtain ⟨p, r, rfl, rfl⟩ := h
  exact ⟨⟨p ++ [t], b.flat ++ r, by simp [Tr.flat], by simp⟩, ⟨p ++ t :: a.flat, r, by simp [Tr.flat], by simp; omega⟩⟩
/-- Where the expressions below begin. -/
def Tr.kids : Tr → Nat → List Nat
  | .leaf _, _ => []
  | .one _ _, i => [i + 1]
  | .two _ a _, i => [i + 1, i + 1 + a.flat.length]
theorem Tr.At.bel {e : Tr} {l : List Tm} {i : Nat} (h : e.At l i) (hw : e.wf) : bel l (arity e.top.op).toNat (i + 1) = e.kids i := by
  cases e with
  | leaf t => simp only [Tr.wf] at hw; simp [Tr.top, hw, Tr.kids, Ev.bel]
  | one t a => simp only [Tr.wf] at hw; simp [Tr.top, hw.1, Tr.kids, Ev.bel]
  | two t a b =>
    simp only [Tr.wf] at hw
    obtain ⟨p, r, hp, hi⟩ := h.two.1
    have := eat_at a hw.2.1 hp hi
    simp [Tr.top, hw.1, Tr.kids, Ev.bel, this]
end Go.Proofs.YtckonoejmjblfaaGreatDoor.Ev
