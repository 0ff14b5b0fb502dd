/- From a law's arguments to the evaluator, and back to the law's row. -/
import Derived.Test.YtckonoejmjblfaaGreatEvK
import Derived.ProofKit
import Derived.OpenShut
import Derived.ChangeOld
import Derived.Carry
import Derived.KernelRfl
set_option linter.unusedVariables false
set_option linter.unusedSimpArgs false
namespace Go.Proofs.YtckonoejmjblfaaGreat.Ev
open Go Go.RowKit Go.ChangeShapes Go.WideShapes Go.ChangeAt

section
variable {P : Program}

/-- What the cells of a value of a type are. -/
def Shape (P : Program) : Nat → TypeId → List D → Prop
  | 0, _, _ => False
  | n + 1, t, ds =>
    match P.underlying t with
    | some .bool => ∃ b, ds = [.bool b]
    | some (.int k) => ∃ x, ds = [.int k x] ∧ (Lit.int k x).wf = true
    | some .string => ∃ s : List UInt8, ds = [.str s] ∧ s.length ≤ maxLen
    | some (.slice e) => ∃ xs : List (List D), ds = [.sl xs] ∧ xs.length ≤ maxLen ∧ ∀ x ∈ xs, Shape P n e x
    | some (.struct fs) => ds.length = P.cellsOf t ∧ ∀ f ∈ fs.toList, Shape P n f.type ((ds.drop f.offset).take (P.cellsOf f.type))
    | some (.array m e) => ds.length = P.cellsOf t ∧ ∀ i, i < m → Shape P n e ((ds.drop (i * P.cellsOf e)).take (P.cellsOf e))
    | _ => False

/-- Types that are read whole: no pointer, map or interface in them; a struct's fields lie one behind the other. -/
def fieldsAt (P : Program) : Nat → List Field → Option Nat
  | o, [] => some o
  | o, f :: r => if f.offset = o then fieldsAt P (o + P.cellsOf f.type) r else none
def plainT (P : Program) : Nat → TypeId → Bool
  | 0, _ => false
  | n + 1, t =>
    match P.underlying t with
    | some .bool | some (.int _) | some .string => true
    | some (.slice e) => plainT P n e
    | some (.struct fs) => fieldsAt P 0 fs.toList == some (P.cellsOf t) && fs.toList.all fun f => plainT P n f.type
    | some (.array m e) => m * P.cellsOf e == P.cellsOf t && plainT P n e
    | _ => false

def allF (W : World) : Addr → Prop := fun a => a.block < W.heap.size

theorem mapM_some {α β : Type} {f : α → Option β} : ∀ {l : List α} {r : List β}, l.mapM f = some r → r.length = l.length ∧ ∀ (i : Nat) x y, l[i]? = some x → r[i]? = some y → f x = some y
  | [], r, h => by simp at h; subst h; exact ⟨rfl, fun i x y hx => by simp at hx⟩
  | a :: l, r, h => by
    simp only [List.mapM_cons, Option.bind_eq_bind, Option.bind_eq_some_iff, Option.pure_def, Option.some.injEq] at h
    obtain ⟨b, hb, r', hr, rfl⟩ := h
    obtain ⟨h1, h2⟩ := mapM_some hr
    refine ⟨by simp [h1], fun i x y hx hy => ?_⟩
    cases i with
    | zero => simp at hx hy; subst hx; subst hy; exact hb
    | succ i => exact h2 i x y (by simpa using hx) (by simpa using hy)
theorem cells_some {w : World} {a : Addr} {n : Nat} {cs : List Value} (h : w.cells? 0 a n = some cs) : cs.length = n ∧ ∀ (j : Nat) u, cs[j]? = some u → w.cell? (a.add j) = some u ∧ a.block < w.heap.size := by
  unfold World.cells? at h
  simp only [Nat.zero_le, if_true] at h
  obtain ⟨h1, h2⟩ := mapM_some h
  simp at h1
  refine ⟨h1, fun j u hu => ?_⟩
  have hj : j < n := by rw [← h1]; exact (List.getElem?_eq_some_iff.1 hu).1
  have := h2 j j u (List.getElem?_range hj) hu
  exact ⟨this, by have := World.block_lt_of_cell? w _ this; rwa [add_block] at this⟩

theorem fields_all2 {R : Value → D → Prop} (S : TypeId → List D → Prop) : ∀ (fs : List Field) (o m : Nat) (cs : List Value), fieldsAt P o fs = some m → cs.length = m → (∀ f ∈ fs, ∃ ds, S f.type ds ∧ All2 R ((cs.drop f.offset).take (P.cellsOf f.type)) ds) →
    ∃ ds : List D, o ≤ m ∧ All2 R (cs.drop o) ds ∧ ∀ f ∈ fs, o ≤ f.offset ∧ f.offset + P.cellsOf f.type ≤ m ∧ S f.type ((ds.drop (f.offset - o)).take (P.cellsOf f.type))
  | [], o, m, cs, h, hl, _ => by
    simp only [fieldsAt, Option.some.injEq] at h
    subst h
    exact ⟨[], Nat.le_refl _, by rw [List.drop_of_length_le (by omega)]; exact All2.nil, by simp⟩
  | f :: r, o, m, cs, h, hl, hf => by
    simp only [fieldsAt] at h
    split at h
    · rename_i ho
      obtain ⟨ds, hm, ha, hs⟩ := fields_all2 S r _ m cs h hl (fun g hg => hf g (by simp [hg]))
      obtain ⟨d0, hs0, ha0⟩ := hf f (by simp)
      rw [ho] at ha0
      have hl0 : d0.length = P.cellsOf f.type := by
        have := ha0.1
        simp at this
        omega
      refine ⟨d0 ++ ds, by omega, ?_, fun g hg => ?_⟩
      · have : cs.drop o = (cs.drop o).take (P.cellsOf f.type) ++ cs.drop (o + P.cellsOf f.type) := by
          rw [← List.drop_drop, List.take_append_drop]
        rw [this]
        exact ha0.append ha
      · rcases List.mem_cons.1 hg with rfl | hg
        · refine ⟨by omega, by omega, ?_⟩
          rw [ho, Nat.sub_self, List.drop_zero, List.take_append_of_le_length (by omega), List.take_of_length_le (by omega)]
          exact hs0
        · obtain ⟨q1, q2, q3⟩ := hs g hg
          refine ⟨by omega, q2, ?_⟩
          have : g.offset - o = d0.length + (g.offset - (o + P.cellsOf f.type)) := by omega
          rw [this, ← List.drop_drop, List.drop_left]
          exact q3
    · cases h

theorem elems_all2 {R : Value → D → Prop} {S : List D → Prop} {z : Nat} : ∀ (m : Nat) (cs : List Value), cs.length = m * z → (∀ i, i < m → ∃ ds, S ds ∧ All2 R ((cs.drop (i * z)).take z) ds) →
    ∃ ds : List D, All2 R cs ds ∧ ∀ i, i < m → S ((ds.drop (i * z)).take z)
  | 0, cs, hl, _ => ⟨[], by
      have : cs = [] := List.eq_nil_of_length_eq_zero (by simpa using hl)
      rw [this]
      exact All2.nil, fun i hi => absurd hi (Nat.not_lt_zero _)⟩
  | m + 1, cs, hl, h => by
    have hadd := Nat.add_mul m 1 z
    obtain ⟨d0, hs0, ha0⟩ := h 0 (by omega)
    simp only [Nat.zero_mul, List.drop_zero] at ha0
    obtain ⟨ds, ha, hs⟩ := elems_all2 (R := R) (S := S) (z := z) m (cs.drop z) (by simp; omega) (fun i hi => by
      obtain ⟨d, h1, h2⟩ := h (i + 1) (by omega)
      refine ⟨d, h1, ?_⟩
      rw [List.drop_drop, show z + i * z = (i + 1) * z by rw [Nat.add_mul]; omega]
      exact h2)
    have hl0 : d0.length = z := by
      have := ha0.1
      simp at this
      omega
    refine ⟨d0 ++ ds, by rw [← List.take_append_drop z cs]; exact ha0.append ha, fun i hi => ?_⟩
    cases i with
    | zero => rw [Nat.zero_mul, List.drop_zero, List.take_append_of_le_length (by omega), List.take_of_length_le (by omega)]; exact hs0
    | succ i =>
      rw [show (i + 1) * z = d0.length + i * z by rw [Nat.add_mul, hl0]; omega, ← List.drop_drop, List.drop_left]
      exact hs i (by omega)

theorem trod_shape {H : Type} {enc : TypeId × Value → H} {W : World} {sp : Nat → Bool} {held : Bool} : ∀ (n fuel : Nat) (t : TypeId) (cs : List Value) (x : DataW H × List MemPlace), DataW.trod enc P W 0 sp held fuel t cs = some x → plainT P n t = true →
    ∃ ds, Shape P n t ds ∧ All2 (RD (allF W) W) cs ds
  | 0, fuel, t, cs, x, h, hp => by simp [plainT] at hp
  | n + 1, 0, t, cs, x, h, hp => by simp [DataW.trod] at h
  | n + 1, fuel + 1, t, cs, x, h, hp => by
    unfold plainT at hp
    split at hp
    · rename_i hu
      unfold DataW.trod at h
      simp only [hu] at h
      split at h
      all_goals first | (rename_i heq; cases heq; done) | skip
      · exact ⟨[.bool _], by unfold Shape; rw [hu]; exact ⟨_, rfl⟩, All2.cons (.bool _) All2.nil⟩
      all_goals cases h
    · rename_i hu
      unfold DataW.trod at h
      simp only [hu] at h
      split at h
      all_goals first | (rename_i heq; cases heq; done) | skip
      · rename_i heq
        cases heq
        split at h
        · rename_i hc
          obtain ⟨rfl, hwf⟩ := hc
          exact ⟨[.int _ _], by unfold Shape; rw [hu]; exact ⟨_, rfl, hwf⟩, All2.cons (.int _ _) All2.nil⟩
        · cases h
      all_goals cases h
    · rename_i hu
      unfold DataW.trod at h
      simp only [hu] at h
      split at h
      all_goals first | (rename_i heq; cases heq; done) | skip
      · rename_i s _
        split at h
        · rename_i hle
          refine ⟨[.str s.data.toList], by unfold Shape; rw [hu]; exact ⟨_, rfl, by rw [← str_size rfl]; exact hle⟩, All2.cons (.str s _ rfl hle) All2.nil⟩
        · cases h
      all_goals cases h
    · rename_i e hu
      unfold DataW.trod at h
      simp only [hu] at h
      split at h
      all_goals first | (rename_i heq; cases heq; done) | skip
      · refine ⟨[.sl []], by unfold Shape; rw [hu]; exact ⟨[], rfl, by simp [maxLen], by simp⟩, All2.cons ?_ All2.nil⟩
        exact .sl none 0 0 0 [] (fun _ _ => .nilFunc) rfl (Nat.le_refl _) (by simp [maxLen]) (fun _ => rfl) (by simp) (fun a ha => by cases ha) (by simp)
      · rename_i e' a len cap heq
        cases heq
        split at h
        · rename_i hc
          rw [Option.bind_eq_some_iff] at h
          obtain ⟨els, hels, h⟩ := h
          obtain ⟨l1, l2⟩ := mapM_some hels
          have each : ∀ i, i < len → ∃ cs x, W.cells? 0 (a.add (i * P.cellsOf e)) (P.cellsOf e) = some cs ∧ DataW.trod enc P W 0 sp held fuel e cs = some x := by
            intro i hi
            have hi' : i < els.length := by simpa [l1] using hi
            have := l2 i i _ (List.getElem?_range hi) (List.getElem?_eq_getElem hi')
            rw [Option.bind_eq_some_iff] at this
            obtain ⟨cs, h1, h2⟩ := this
            exact ⟨cs, _, h1, h2⟩
          have each2 : ∀ i, ∃ ds : List D, i < len → Shape P n e ds ∧ ∃ cs, W.cells? 0 (a.add (i * P.cellsOf e)) (P.cellsOf e) = some cs ∧ All2 (RD (allF W) W) cs ds := by
            intro i
            by_cases hi : i < len
            · obtain ⟨cs, x, h1, h2⟩ := each i hi
              obtain ⟨ds, h3, h4⟩ := trod_shape n fuel e cs x h2 hp
              exact ⟨ds, fun _ => ⟨h3, cs, h1, h4⟩⟩
            · exact ⟨[], fun h => absurd h hi⟩
          obtain ⟨g, hg⟩ := Classical.axiomOfChoice each2
          have hl : ∀ i, i < len → (g i).length = P.cellsOf e := fun i hi => by
            obtain ⟨_, cs, h1, h2⟩ := hg i hi
            rw [← h2.1]
            exact (cells_some h1).1
          have hget : ∀ (i : Nat) (x : List D), ((List.range len).map g)[i]? = some x → i < len ∧ x = g i := by
            intro i x hx
            have hi : i < len := by have := (List.getElem?_eq_some_iff.1 hx).1; simpa using this
            rw [List.getElem?_map, List.getElem?_range hi] at hx
            simp only [Option.map_some, Option.some.injEq] at hx
            exact ⟨hi, hx.symm⟩
          refine ⟨[.sl ((List.range len).map g)], ?_, All2.cons ?_ All2.nil⟩
          · unfold Shape
            rw [hu]
            refine ⟨_, rfl, by simp; omega, fun x hx => ?_⟩
            obtain ⟨i, hi⟩ := List.getElem?_of_mem hx
            obtain ⟨h1, rfl⟩ := hget i x hi
            exact (hg i h1).1
          · refine .sl (some a) len cap (P.cellsOf e) _ (fun i j => (W.cell? (a.add (i * P.cellsOf e + j))).getD undef) (by simp) hc.2.1 hc.2.2 (fun h => by cases h) (fun i x hx => ?_) (fun a' ha i j hi hj => ?_) (fun i j x d hx hd => ?_)
            · obtain ⟨h1, rfl⟩ := hget i x hx
              exact hl i h1
            · cases ha
              obtain ⟨_, cs, h1, h2⟩ := hg i hi
              obtain ⟨h3, h4⟩ := cells_some h1
              obtain ⟨h5, h6⟩ := h4 j _ (List.getElem?_eq_getElem (by omega))
              rw [add_add] at h5
              rw [h5]
              exact ⟨by simpa [allF, add_block] using h6, rfl⟩
            · obtain ⟨h1, rfl⟩ := hget i x hx
              obtain ⟨_, cs, h2, h3⟩ := hg i h1
              have hj : j < cs.length := by rw [h3.1]; exact (List.getElem?_eq_some_iff.1 hd).1
              have h4 := h3.2 j _ d (List.getElem?_eq_getElem hj) hd
              obtain ⟨h5, _⟩ := (cells_some h2).2 j _ (List.getElem?_eq_getElem hj)
              rw [add_add] at h5
              rw [h5]
              exact h4
        · cases h
      all_goals cases h
    · rename_i fs hu
      simp only [Bool.and_eq_true, beq_iff_eq, List.all_eq_true] at hp
      unfold DataW.trod at h
      simp only [hu] at h
      split at h
      · rename_i hlen
        rw [Option.map_eq_some_iff] at h
        obtain ⟨xs, hxs, _⟩ := h
        obtain ⟨l1, l2⟩ := mapM_some hxs
        obtain ⟨ds, _, h1, h2⟩ := fields_all2 (P := P) (R := RD (allF W) W) (Shape P n) fs.toList 0 _ cs hp.1 hlen (fun f hf => by
          obtain ⟨i, hi⟩ := List.getElem?_of_mem hf
          have hi' : i < xs.length := by rw [l1]; exact (List.getElem?_eq_some_iff.1 hi).1
          have := l2 i f _ hi (List.getElem?_eq_getElem hi')
          exact trod_shape n fuel f.type _ _ this (hp.2 f hf))
        rw [List.drop_zero] at h1
        refine ⟨ds, ?_, h1⟩
        unfold Shape
        rw [hu]
        exact ⟨by rw [← h1.1]; exact hlen, fun f hf => by have := (h2 f hf).2.2; simpa using this⟩
      · cases h
    · rename_i m e hu
      simp only [Bool.and_eq_true, beq_iff_eq] at hp
      unfold DataW.trod at h
      simp only [hu] at h
      split at h
      · rename_i hlen
        rw [Option.map_eq_some_iff] at h
        obtain ⟨xs, hxs, _⟩ := h
        obtain ⟨l1, l2⟩ := mapM_some hxs
        obtain ⟨ds, h1, h2⟩ := elems_all2 (R := RD (allF W) W) (S := Shape P n e) (z := P.cellsOf e) m cs (by rw [hlen, ← hp.1]) (fun i hi => by
          have hi' : i < xs.length := by simpa [l1] using hi
          have := l2 i i _ (List.getElem?_range hi) (List.getElem?_eq_getElem hi')
          exact trod_shape n fuel e _ _ this hp.2)
        refine ⟨ds, ?_, h1⟩
        unfold Shape
        rw [hu]
        exact ⟨by rw [← h1.1]; exact hlen, h2⟩
      · cases h
    · cases hp
end
end Go.Proofs.YtckonoejmjblfaaGreat.Ev
