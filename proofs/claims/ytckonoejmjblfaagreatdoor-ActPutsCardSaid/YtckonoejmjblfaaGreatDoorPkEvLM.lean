/- From a law's arguments to the evaluator, and back to the law's row. -/
import Derived.Test.YtckonoejmjblfaaGreatDoorPkEvJK
import Derived.ProofKit
import Derived.OpenShut
import Derived.ChangeOld
import Derived.Carry
import Derived.KernelRfl
import Derived.Handed
import Derived.Lib.Bytealg
set_option linter.unusedVariables false
set_option linter.unusedSimpArgs false
namespace Go.Proofs.YtckonoejmjblfaaGreatDoor.Ev
open Go Go.RowKit Go.ChangeShapes Go.WideShapes Go.ChangeAt

section
variable {P : Program}

/-- What the cells of a value of a type are. -/
def Shape (P : Program) : Nat → TypeId → List D → Prop
  | 0, _, _ => False
  | n + 1, t, ds =>
    match P.underlying t with
    | some .bool => ∃ b, ds = [.bool b]
    | some (.int k) => ∃ x, ds = [.int k x] ∧ (Lit.int k x).wf = true
    | some .string => ∃ s : List UInt8, ds = [.str s] ∧ s.length ≤ maxLen
    | some (.slice e) => ∃ xs : List (List D), ds = [.sl xs] ∧ xs.length ≤ maxLen ∧ ∀ x ∈ xs, Shape P n e x
    | some (.struct fs) => ds.length = P.cellsOf t ∧ ∀ f ∈ fs.toList, Shape P n f.type ((ds.drop f.offset).take (P.cellsOf f.type))
    | some (.array m e) => ds.length = P.cellsOf t ∧ ∀ i, i < m → Shape P n e ((ds.drop (i * P.cellsOf e)).take (P.cellsOf e))
    | _ => False

/-- Types that are read whole: no pointer, map or interface in them; a struct's fields lie one behind the other. -/
def fieldsAt (P : Program) : Nat → List Field → Option Nat
  | o, [] => some o
  | o, f :: r => if f.offset = o then fieldsAt P (o + P.cellsOf f.type) r else none
def plainT (P : Program) : Nat → TypeId → Bool
  | 0, _ => false
  | n + 1, t =>
    match P.underlying t with
    | some .bool | some (.int _) | some .string => true
    | some (.slice e) => plainT P n e
    | some (.struct fs) => fieldsAt P 0 fs.toList == some (P.cellsOf t) && fs.toList.all fun f => plainT P n f.type
    | some (.array m e) => m * P.cellsOf e == P.cellsOf t && plainT P n e
    | _ => false

def allF (W : World) : Addr → Prop := fun a => a.block < W.heap.size

theorem mapM_some {α β : Type} {f : α → Option β} : ∀ {l : List α} {r : List β}, l.mapM f = some r → r.length = l.length ∧ ∀ (i : Nat) x y, l[i]? = some x → r[i]? = some y → f x = some y
  | [], r, h => by simp at h; subst h; exact ⟨rfl, fun i x y hx => by simp at hx⟩
  | a :: l, r, h => by
    simp only [List.mapM_cons, Option.bind_eq_bind, Option.bind_eq_some_iff, Option.pure_def, Option.some.injEq] at h
    obtain ⟨b, hb, r', hr, rfl⟩ := h
    obtain ⟨h1, h2⟩ := mapM_some hr
    refine ⟨by simp [h1], fun i x y hx hy => ?_⟩
    cases i with
    | zero => simp at hx hy; subst hx; subst hy; exact hb
    | succ i => exact h2 i x y (by simpa using hx) (by simpa using hy)
theorem cells_some {w : World} {a : Addr} {n : Nat} {cs : List Value} (h : w.cells? 0 a n = some cs) : cs.length = n ∧ ∀ (j : Nat) u, cs[j]? = some u → w.cell? (a.add j) = some u ∧ a.block < w.heap.size := by
  unfold World.cells? at h
  simp only [Nat.zero_le, if_true] at h
  obtain ⟨h1, h2⟩ := mapM_some h
  simp at h1
  refine ⟨h1, fun j u hu => ?_⟩
  have hj : j < n := by rw [← h1]; exact (List.getElem?_eq_some_iff.1 hu).1
  have := h2 j j u (List.getElem?_range hj) hu
  exact ⟨this, by have := World.block_lt_of_cell? w _ this; rwa [add_block] at this⟩

theorem fields_all2 {R : Value → D → Prop} (S : TypeId → List D → Prop) : ∀ (fs : List Field) (o m : Nat) (cs : List Value), fieldsAt P o fs = some m → cs.length = m → (∀ f ∈ fs, ∃ ds, S f.type ds ∧ All2 R ((cs.drop f.offset).take (P.cellsOf f.type)) ds) →
    ∃ ds : List D, o ≤ m ∧ All2 R (cs.drop o) ds ∧ ∀ f ∈ fs, o ≤ f.offset ∧ f.offset + P.cellsOf f.type ≤ m ∧ S f.type ((ds.drop (f.offset - o)).take (P.cellsOf f.type))
  | [], o, m, cs, h, hl, _ => by
    simp only [fieldsAt, Option.some.injEq] at h
    subst h
    exact ⟨[], Nat.le_refl _, by rw [List.drop_of_length_le (by omega)]; exact All2.nil, by simp⟩
  | f :: r, o, m, cs, h, hl, hf => by
    simp only [fieldsAt] at h
    split at h
    · rename_i ho
      obtain ⟨ds, hm, ha, hs⟩ := fields_all2 S r _ m cs h hl (fun g hg => hf g (by simp [hg]))
      obtain ⟨d0, hs0, ha0⟩ := hf f (by simp)
      rw [ho] at ha0
      have hl0 : d0.length = P.cellsOf f.type := by
        have := ha0.1
        simp at this
        omega
      refine ⟨d0 ++ ds, by omega, ?_, fun g hg => ?_⟩
      · have : cs.drop o = (cs.drop o).take (P.cellsOf f.type) ++ cs.drop (o + P.cellsOf f.type) := by
          rw [← List.drop_drop, List.take_append_drop]
        rw [this]
        exact ha0.append ha
      · rcases List.mem_cons.1 hg with rfl | hg
        · refine ⟨by omega, by omega, ?_⟩
          rw [ho, Nat.sub_self, List.drop_zero, List.take_append_of_le_length (by omega), List.take_of_length_le (by omega)]
          exact hs0
        · obtain ⟨q1, q2, q3⟩ := hs g hg
          refine ⟨by omega, q2, ?_⟩
          have : g.offset - o = d0.length + (g.offset - (o + P.cellsOf f.type)) := by omega
          rw [this, ← List.drop_drop, List.drop_left]
          exact q3
    · cases h

theorem elems_all2 {R : Value → D → Prop} {S : List D → Prop} {z : Nat} : ∀ (m : Nat) (cs : List Value), cs.length = m * z → (∀ i, i < m → ∃ ds, S ds ∧ All2 R ((cs.drop (i * z)).take z) ds) →
    ∃ ds : List D, All2 R cs ds ∧ ∀ i, i < m → S ((ds.drop (i * z)).take z)
  | 0, cs, hl, _ => ⟨[], by
      have : cs = [] := List.eq_nil_of_length_eq_zero (by simpa using hl)
      rw [this]
      exact All2.nil, fun i hi => absurd hi (Nat.not_lt_zero _)⟩
  | m + 1, cs, hl, h => by
    have hadd := Nat.add_mul m 1 z
    obtain ⟨d0, hs0, ha0⟩ := h 0 (by omega)
    simp only [Nat.zero_mul, List.drop_zero] at ha0
    obtain ⟨ds, ha, hs⟩ := elems_all2 (R := R) (S := S) (z := z) m (cs.drop z) (by simp; omega) (fun i hi => by
      obtain ⟨d, h1, h2⟩ := h (i + 1) (by omega)
      refine ⟨d, h1, ?_⟩
      rw [List.drop_drop, show z + i * z = (i + 1) * z by rw [Nat.add_mul]; omega]
      exact h2)
    have hl0 : d0.length = z := by
      have := ha0.1
      simp at this
      omega
    refine ⟨d0 ++ ds, by rw [← List.take_append_drop z cs]; exact ha0.append ha, fun i hi => ?_⟩
    cases i with
    | zero => rw [Nat.zero_mul, List.drop_zero, List.take_append_of_le_length (by omega), List.take_of_length_le (by omega)]; exact hs0
    | succ i =>
      rw [show (i + 1) * z = d0.length + i * z by rw [Nat.add_mul, hl0]; omega, ← List.drop_drop, List.drop_left]
      exact hs i (by omega)

theorem trod_shape {H : Type} {enc : TypeId × Value → H} {W : World} {sp : Nat → Bool} {held : Bool} : ∀ (n fuel : Nat) (t : TypeId) (cs : List Value) (x : DataW H × List MemPlace), DataW.trod enc P W 0 sp held fuel t cs = some x → plainT P n t = true →
    ∃ ds, Shape P n t ds ∧ All2 (RD (allF W) W) cs ds
  | 0, fuel, t, cs, x, h, hp => by simp [plainT] at hp
  | n + 1, 0, t, cs, x, h, hp => by simp [DataW.trod] at h
  | n + 1, fuel + 1, t, cs, x, h, hp => by
    unfold plainT at hp
    split at hp
    · rename_i hu
      unfold DataW.trod at h
      simp only [hu] at h
      split at h
      all_goals first | (rename_i heq; cases heq; done) | skip
      · exact ⟨[.bool _], by unfold Shape; rw [hu]; exact ⟨_, rfl⟩, All2.cons (.bool _) All2.nil⟩
      all_goals cases h
    · rename_i hu
      unfold DataW.trod at h
      simp only [hu] at h
      split at h
      all_goals first | (rename_i heq; cases heq; done) | skip
      · rename_i heq
        cases heq
        split at h
        · rename_i hc
          obtain ⟨rfl, hwf⟩ := hc
          exact ⟨[.int _ _], by unfold Shape; rw [hu]; exact ⟨_, rfl, hwf⟩, All2.cons (.int _ _) All2.nil⟩
        · cases h
      all_goals cases h
    · rename_i hu
      unfold DataW.trod at h
      simp only [hu] at h
      split at h
      all_goals first | (rename_i heq; cases heq; done) | skip
      · rename_i s _
        split at h
        · rename_i hle
          refine ⟨[.str s.data.toList], by unfold Shape; rw [hu]; exact ⟨_, rfl, by rw [← str_size rfl]; exact hle⟩, All2.cons (.str s _ rfl hle) All2.nil⟩
        · cases h
      all_goals cases h
    · rename_i e hu
      unfold DataW.trod at h
      simp only [hu] at h
      split at h
      all_goals first | (rename_i heq; cases heq; done) | skip
      · refine ⟨[.sl []], by unfold Shape; rw [hu]; exact ⟨[], rfl, by simp [maxLen], by simp⟩, All2.cons ?_ All2.nil⟩
        exact .sl none 0 0 0 [] (fun _ _ => .nilFunc) rfl (Nat.le_refl _) (by simp [maxLen]) (fun _ => rfl) (by simp) (fun a ha => by cases ha) (by simp)
      · rename_i e' a len cap heq
        cases heq
        split at h
        · rename_i hc
          rw [Option.bind_eq_some_iff] at h
          obtain ⟨els, hels, h⟩ := h
          obtain ⟨l1, l2⟩ := mapM_some hels
          have each : ∀ i, i < len → ∃ cs x, W.cells? 0 (a.add (i * P.cellsOf e)) (P.cellsOf e) = some cs ∧ DataW.trod enc P W 0 sp held fuel e cs = some x := by
            intro i hi
            have hi' : i < els.length := by simpa [l1] using hi
            have := l2 i i _ (List.getElem?_range hi) (List.getElem?_eq_getElem hi')
            rw [Option.bind_eq_some_iff] at this
            obtain ⟨cs, h1, h2⟩ := this
            exact ⟨cs, _, h1, h2⟩
          have each2 : ∀ i, ∃ ds : List D, i < len → Shape P n e ds ∧ ∃ cs, W.cells? 0 (a.add (i * P.cellsOf e)) (P.cellsOf e) = some cs ∧ All2 (RD (allF W) W) cs ds := by
            intro i
            by_cases hi : i < len
            · obtain ⟨cs, x, h1, h2⟩ := each i hi
              obtain ⟨ds, h3, h4⟩ := trod_shape n fuel e cs x h2 hp
              exact ⟨ds, fun _ => ⟨h3, cs, h1, h4⟩⟩
            · exact ⟨[], fun h => absurd h hi⟩
          obtain ⟨g, hg⟩ := Classical.axiomOfChoice each2
          have hl : ∀ i, i < len → (g i).length = P.cellsOf e := fun i hi => by
            obtain ⟨_, cs, h1, h2⟩ := hg i hi
            rw [← h2.1]
            exact (cells_some h1).1
          have hget : ∀ (i : Nat) (x : List D), ((List.range len).map g)[i]? = some x → i < len ∧ x = g i := by
            intro i x hx
            have hi : i < len := by have := (List.getElem?_eq_some_iff.1 hx).1; simpa using this
            rw [List.getElem?_map, List.getElem?_range hi] at hx
            simp only [Option.map_some, Option.some.injEq] at hx
            exact ⟨hi, hx.symm⟩
          refine ⟨[.sl ((List.range len).map g)], ?_, All2.cons ?_ All2.nil⟩
          · unfold Shape
            rw [hu]
            refine ⟨_, rfl, by simp; omega, fun x hx => ?_⟩
            obtain ⟨i, hi⟩ := List.getElem?_of_mem hx
            obtain ⟨h1, rfl⟩ := hget i x hi
            exact (hg i h1).1
          · refine .sl (some a) len cap (P.cellsOf e) _ (fun i j => (W.cell? (a.add (i * P.cellsOf e + j))).getD undef) (by simp) hc.2.1 hc.2.2 (fun h => by cases h) (fun i x hx => ?_) (fun a' ha i j hi hj => ?_) (fun i j x d hx hd => ?_)
            · obtain ⟨h1, rfl⟩ := hget i x hx
              exact hl i h1
            · cases ha
              obtain ⟨_, cs, h1, h2⟩ := hg i hi
              obtain ⟨h3, h4⟩ := cells_some h1
              obtain ⟨h5, h6⟩ := h4 j _ (List.getElem?_eq_getElem (by omega))
              rw [add_add] at h5
              rw [h5]
              exact ⟨by simpa [allF, add_block] using h6, rfl⟩
            · obtain ⟨h1, rfl⟩ := hget i x hx
              obtain ⟨_, cs, h2, h3⟩ := hg i h1
              have hj : j < cs.length := by rw [h3.1]; exact (List.getElem?_eq_some_iff.1 hd).1
              have h4 := h3.2 j _ d (List.getElem?_eq_getElem hj) hd
              obtain ⟨h5, _⟩ := (cells_some h2).2 j _ (List.getElem?_eq_getElem hj)
              rw [add_add] at h5
              rw [h5]
              exact h4
        · cases h
      all_goals cases h
    · rename_i fs hu
      simp only [Bool.and_eq_true, beq_iff_eq, List.all_eq_true] at hp
      unfold DataW.trod at h
      simp only [hu] at h
      split at h
      · rename_i hlen
        rw [Option.map_eq_some_iff] at h
        obtain ⟨xs, hxs, _⟩ := h
        obtain ⟨l1, l2⟩ := mapM_some hxs
        obtain ⟨ds, _, h1, h2⟩ := fields_all2 (P := P) (R := RD (allF W) W) (Shape P n) fs.toList 0 _ cs hp.1 hlen (fun f hf => by
          obtain ⟨i, hi⟩ := List.getElem?_of_mem hf
          have hi' : i < xs.length := by rw [l1]; exact (List.getElem?_eq_some_iff.1 hi).1
          have := l2 i f _ hi (List.getElem?_eq_getElem hi')
          exact trod_shape n fuel f.type _ _ this (hp.2 f hf))
        rw [List.drop_zero] at h1
        refine ⟨ds, ?_, h1⟩
        unfold Shape
        rw [hu]
        exact ⟨by rw [← h1.1]; exact hlen, fun f hf => by have := (h2 f hf).2.2; simpa using this⟩
      · cases h
    · rename_i m e hu
      simp only [Bool.and_eq_true, beq_iff_eq] at hp
      unfold DataW.trod at h
      simp only [hu] at h
      split at h
      · rename_i hlen
        rw [Option.map_eq_some_iff] at h
        obtain ⟨xs, hxs, _⟩ := h
        obtain ⟨l1, l2⟩ := mapM_some hxs
        obtain ⟨ds, h1, h2⟩ := elems_all2 (R := RD (allF W) W) (S := Shape P n e) (z := P.cellsOf e) m cs (by rw [hlen, ← hp.1]) (fun i hi => by
          have hi' : i < xs.length := by simpa [l1] using hi
          have := l2 i i _ (List.getElem?_range hi) (List.getElem?_eq_getElem hi')
          exact trod_shape n fuel e _ _ this hp.2)
        refine ⟨ds, ?_, h1⟩
        unfold Shape
        rw [hu]
        exact ⟨by rw [← h1.1]; exact hlen, h2⟩
      · cases h
    · cases hp
end
end Go.Proofs.YtckonoejmjblfaaGreatDoor.Ev

/- A law's row, out of what the evaluator says. -/
set_option linter.unusedVariables false
set_option linter.unusedSimpArgs false
namespace Go.Proofs.YtckonoejmjblfaaGreatDoor.Ev
open Go Go.RowKit Go.ChangeShapes Go.WideShapes Go.ChangeAt

section
variable {P : Program}

/-- An argument of a type. -/
def ArgOf (P : Program) (n : Nat) (t : TypeId) (c : C) : Prop :=
  ∃ ds, Shape P n t ds ∧ ((isAggT P t = some true ∧ c = .agg (ds.map .d)) ∨ (isAggT P t = some false ∧ ∃ d, ds = [d] ∧ c = .w (.d d)))

/-- Where a law begins. -/
def Ctx.first (W : World) : Ctx := { F := allF W, w := W, box := fun _ => 0, bl := fun _ => False, tok := fun _ => .nilFunc, len := fun _ => none, glb := fun _ => (0, 0), ng := 0, own := fun _ => none }

theorem arg_of {H : Type} {enc : TypeId × Value → H} {W : World} {sp : Nat → Bool} {held : Bool} {base n : Nat} {t : TypeId} {v : Value} {d : DataW H} {ps : List MemPlace} (h : DataW.Trod enc P W 0 sp held t v d ps) (hp : plainT P n t = true)
    (hok : Value.okWide P W .any base t v) : ∃ c, ArgOf P n t c ∧ RC (Ctx.first W) v c := by
  obtain ⟨fuel, hf⟩ := h
  obtain ⟨ds, hs, ha⟩ := trod_shape n fuel t _ _ hf hp
  cases n with
  | zero => simp [plainT] at hp
  | succ n =>
    unfold plainT at hp
    unfold Value.okWide at hok
    have scalar : ∀ u, P.underlying t = some u → aggD u = false → (∃ d, ds = [d]) → Cell.okWide P W .any base t v → ∃ c, ArgOf P (n + 1) t c ∧ RC (Ctx.first W) v c := by
      intro u hu hag hd hc
      obtain ⟨d, rfl⟩ := hd
      obtain ⟨w, r, hw, h1, h2⟩ := ha.uncons
      rw [h2.nil_iff] at hw
      have hv : v = w := by
        have hnot : ∀ cs, v ≠ .agg cs := by
          rintro cs rfl
          unfold Cell.okWide at hc
          split at hc
          all_goals first | (rename_i heq _; cases heq; done) | (rename_i heq; cases heq; done) | skip
          unfold Cell.ok at hc
          split at hc
          all_goals first | (rename_i heq _; cases heq; done) | (rename_i heq; cases heq; done) | skip
          all_goals first | exact hc | simp_all
        cases v <;> simp [Value.cells] at hw <;> first | exact hw | (exact absurd rfl (hnot _))
      subst hv
      exact ⟨_, ⟨[d], hs, .inr ⟨by rw [isAgg_of hu, hag], d, rfl, rfl⟩⟩, h1⟩
    have agg : ∀ u, P.underlying t = some u → aggD u = true → (∃ cs, v = .agg cs) → ∃ c, ArgOf P (n + 1) t c ∧ RC (Ctx.first W) v c := by
      rintro u hu hag ⟨cs, rfl⟩
      exact ⟨_, ⟨ds, hs, .inl ⟨by rw [isAgg_of hu, hag], rfl⟩⟩, cs, rfl, All2.map_right (R := RW (Ctx.first W)) _ ha, fun u hu => by
        obtain ⟨i, hi⟩ := List.getElem?_of_mem hu
        have hl : i < ds.length := by rw [← ha.1]; exact (List.getElem?_eq_some_iff.1 hi).1
        exact (ha.2 i u _ hi (List.getElem?_eq_getElem hl)).oneCell.1⟩
    have hs' := hs
    unfold Shape at hs'
    split at hp
    · rename_i hu
      rw [hu] at hok hs'
      obtain ⟨b, hb⟩ := hs'
      exact scalar _ hu rfl ⟨_, hb⟩ hok
    · rename_i hu
      rw [hu] at hok hs'
      obtain ⟨b, hb, _⟩ := hs'
      exact scalar _ hu rfl ⟨_, hb⟩ hok
    · rename_i hu
      rw [hu] at hok hs'
      obtain ⟨b, hb, _⟩ := hs'
      exact scalar _ hu rfl ⟨_, hb⟩ hok
    · rename_i hu
      rw [hu] at hok hs'
      obtain ⟨b, hb, _⟩ := hs'
      exact scalar _ hu rfl ⟨_, hb⟩ hok
    · rename_i hu
      rw [hu] at hok
      obtain ⟨cs, hv, _⟩ := hok
      exact agg _ hu rfl ⟨cs, hv⟩
    · rename_i hu
      rw [hu] at hok
      obtain ⟨cs, hv, _⟩ := hok
      exact agg _ hu rfl ⟨cs, hv⟩
    · cases hp

theorem args_of {H : Type} {enc : TypeId × Value → H} {W : World} {sp : Nat → Bool} {held : Bool} {base n : Nat} : ∀ {ts : List TypeId} {vs : List Value} {ds : List (DataW H)} {ps : List MemPlace}, DataW.TrodAll enc P W 0 sp held ts vs ds ps → (ts.all fun t => plainT P n t) = true →
    (∀ (j : Nat) t v, ts[j]? = some t → vs[j]? = some v → Value.okWide P W .any base t v) → ∃ cs, All2 (ArgOf P n) ts cs ∧ All2 (RC (Ctx.first W)) vs cs
  | [], vs, ds, ps, h, _, _ => by obtain ⟨rfl, _, _⟩ := trodAll_nil h; exact ⟨[], All2.nil, All2.nil⟩
  | t :: ts, vs, ds, ps, h, hp, hok => by
    obtain ⟨v, vs', d, ds', p, q, rfl, rfl, _, h1, h2⟩ := trodAll_cons h
    simp only [List.all_cons, Bool.and_eq_true] at hp
    obtain ⟨c, k1, k2⟩ := arg_of h1 hp.1 (hok 0 t v rfl rfl)
    obtain ⟨cs, k3, k4⟩ := args_of h2 hp.2 (fun j t v ht hv => hok (j + 1) t v (by simpa using ht) (by simpa using hv))
    exact ⟨c :: cs, All2.cons k1 k3, All2.cons k2 k4⟩

/-- A law's call. -/
theorem law_calls {cfg : Cfg} {ext : Nat → Option Caller} (hm : Base P cfg) (hx : ∀ f g, ext f = some g → Sound P False (fun f' => if f' = f then g f' else fun _ _ _ => none)) {f n : Nat} (hxf : ext f = none) {W : World} {vals : List Value} {args : List C} {r : V} {gl : List (List Ev.W)}
    (ha : All2 (RC (Ctx.first W)) vals args) (h : evF P cfg ext n f args 0 [] = some (r, gl)) :
    Calls P f vals.toArray W fun e w' => ∃ Γ' v, e = .returned v ∧ Below W.heap.size W w' ∧ RV Γ' v r := by
  have h3 := evF_left hm hx hxf h
  have hI : Inv (Ctx.first W) (Ctx.first W).w.heap.size { sl := args.map .c, bx := [], tk := [], gl := [], ro := 0 } { tmps := vals.toArray, defers := [] } := by
    refine ⟨Marks.nil, by simp [ha.1], fun i v x hv hx => ?_, fun k => rfl, fun k => by simp [Ctx.first, look], rfl, fun k cs hk => by simp [look] at hk, fun k t hk => by simp [look] at hk, fun o cs ho _ => by simp at ho, fun a ha => ⟨ha, .inl rfl⟩, fun g hg => absurd rfl hg, Nat.le_refl _, fun k p hk => by simp [look] at hk⟩
    rw [List.getElem?_map, Option.map_eq_some_iff] at hx
    obtain ⟨c, hc, rfl⟩ := hx
    exact ha.2 i v c (by simpa using hv) hc
  refine (h3 (Ctx.first W) vals hI).mono ?_
  rintro e w' ⟨Γ', v, rfl, rfl, st, hI'⟩
  exact ⟨Γ', v, rfl, ⟨st.os, st.tape, st.output, st.size, fun g hg => st.old g hg (fun o e => by cases e)⟩, hI'.slots 0 v _ rfl rfl⟩

theorem trodAll_below {H : Type} {enc : TypeId × Value → H} (hl : laidOutB P = true) {W W' : World} (hb : Below W.heap.size W W') : ∀ {ts : List TypeId} {vs : List Value} {ds : List (DataW H)} {ps : List MemPlace}, (ts.all fun t => P.readableRec t && decide (t < P.types.size)) = true → DataW.TrodAll enc P W 0 (fun _ => true) true ts vs ds ps →
    DataW.TrodAll enc P W' 0 (fun b => decide (b < W.heap.size)) true ts vs ds ps
  | [], vs, ds, ps, _, h => by obtain ⟨rfl, rfl, rfl⟩ := trodAll_nil h; exact trodAll_mk0
  | t :: ts, vs, ds, ps, hr, h => by
    obtain ⟨v, vs', d, ds', p, q, rfl, rfl, rfl, h1, h2⟩ := trodAll_cons h
    simp only [List.all_cons, Bool.and_eq_true, decide_eq_true_eq] at hr
    have hlt : ∀ x ∈ p, x.block < W.heap.size := by obtain ⟨m, hm⟩ := h1; exact DataW.trod_lt m _ _ _ hm
    exact ⟨p, q, Below.trod hl hr.1.1 hr.1.2 h1 hb hlt, trodAll_below hl hb hr.2 h2, rfl⟩

theorem lifted_of {C : Checked} {cfg : Cfg} {ext : Nat → Option Caller} {f K : Nat} {fn : Func} {spec : ChangeSpec} {dom : List PathCond} (hm : Base C.prog cfg)
    (hx : ∀ f g, ext f = some g → Sound C.prog False (fun f' => if f' = f then g f' else fun _ _ _ => none)) (own : ownKnob C.prog.godebug = none) (hl : laidOutB C.prog = true) (hfn : C.prog.funcs[f]? = some fn) (hxf : ext f = none) (hin : C.prog.inits.idxOf? f = none)
    (hvars : spec.vars = []) (hspec : ∀ (H : Type) (ds : List (DataW H)), ds.length = fn.params.size → (spec.fn H ds).results = [.lit (.bool true)] ∧ (spec.fn H ds).args = ds ∧ (spec.fn H ds).vars = [])
    {tb : TypeId} (hres : fn.resultTypes = #[tb]) (htb : C.prog.underlying tb = some .bool) (hread : (fn.params.toList.all fun t => C.prog.readableRec t && decide (t < C.prog.types.size)) = true) (hplain : (fn.params.toList.all fun t => plainT C.prog K t) = true)
    (hev : ∀ args, All2 (ArgOf C.prog K) fn.params.toList args → ∃ n gl, evF C.prog cfg ext n f args 0 [] = some (V.bool true, gl))
    (os : Os) (started : os.Started) (H : Type) (enc : TypeId × Value → H)
    (hwit : ∃ (w : World) (tape : Tape) (i : Input), w.os = os ∧ (w.forCall tape i).Shaped C.prog ∧ i.vars = [] ∧ Input.okWide C.prog (w.forCall tape i) .any w.heap.size f i ∧
      spec.pre6 enc C.prog fn dom false (w.forCall tape i).memory i.args ∧ ({} : Assume).holds C.prog (lone (Frame.enter C.prog f i.args .normal) [] (w.forCall tape i))) :
    ReturnsInHanded {} C os f .any (spec.pre6 enc C.prog fn dom false) (spec.post enc C.prog fn false true false false) := by
  refine returnsInHanded_of_change (C := C) own started hin hfn hwit ?_
  intro W base args ds gs before hval hW hcnd _
  have hW' := hW
  obtain ⟨p, q, hA, hV, rfl, hfz, hnd⟩ := hW
  rw [hvars] at hV
  obtain ⟨rfl, rfl⟩ := trodVars_none hV
  obtain ⟨cs, k1, k2⟩ := args_of hA hplain (base := base) (fun j t v ht hv => hval j t v (by simpa using ht) (by simpa using hv))
  obtain ⟨n, gl, he⟩ := hev cs k1
  have hc := law_calls hm hx hxf k2 he
  have hargs : args.toList.toArray = args := by simp
  rw [hargs] at hc
  refine hc.mono ?_
  rintro e w' ⟨Γ', v, rfl, hb, hv⟩
  cases hv
  have hlen : ds.length = fn.params.size := by
    have : ∀ {ts : List TypeId} {vs : List Value} {ds : List (DataW H)} {ps : List MemPlace}, DataW.TrodAll enc C.prog W 0 (fun _ => true) true ts vs ds ps → ds.length = ts.length := by
      intro ts
      induction ts with
      | nil => intro vs ds ps h; obtain ⟨_, rfl, _⟩ := trodAll_nil h; rfl
      | cons t ts ih => intro vs ds ps h; obtain ⟨_, _, _, _, _, _, _, rfl, _, _, h2⟩ := trodAll_cons h; simp [ih h2]
    simpa using this hA
  obtain ⟨s1, s2, s3⟩ := hspec H ds hlen
  refine ⟨_, rfl, ds, [], _, [], p, [], hW', ?_, ?_, ?_, hb.frame _, fun h => by cases h⟩
  · rw [List.append_nil, s1, hres]
    exact trodAll_mk1 (shut_bool htb _)
  · rw [List.append_nil, s2]
    exact trodAll_below hl hb hread hA
  · rw [List.append_nil, s3, hvars]
    rfl
end
end Go.Proofs.YtckonoejmjblfaaGreatDoor.Ev

/- Functions without a body: what the model's entries answer. -/
set_option linter.unusedVariables false
set_option linter.unusedSimpArgs false
namespace Go.Proofs.YtckonoejmjblfaaGreatDoor.Ev
open Go Go.RowKit

def natC (k : Nat) : Caller := fun _ args _ gl => match k, args with
  | 0, [.w (.d (.str s)), .w (.d (.int .u8 c))] => some (V.int .i64 (Lib.indexByte s c.toNat.toUInt8), gl)
  | 1, [.w (.d (.str s)), .w (.d (.int .u8 c))] => some (V.int .i64 (Lib.countByte s c.toNat.toUInt8), gl)
  | _, _ => none
def natE : Nat → Array Value → Sem Value
  | 0 => Extern.BytealgIndexByte.indexByte
  | 1 => Extern.BytealgCount.count
  | _ => fun _ => stuck ""
theorem two_vals {Γ : Ctx} {B : Nat} {x y : C} {ro : Nat} {gl : List (List W)} {vals : List Value} (hI : Inv Γ B { sl := [x, y].map V.c, bx := [], tk := [], gl, ro } { tmps := vals.toArray, defers := [] }) : ∃ u v, vals = [u, v] ∧ RC Γ u x ∧ RC Γ v y := by
  have hs := hI.size
  simp at hs
  match vals, hs with
  | [u, v], _ => exact ⟨u, v, rfl, hI.slots 0 u _ rfl rfl, hI.slots 1 v _ rfl rfl⟩
theorem res_inv {Γ : Ctx} {B : Nat} {xs : List V} {ro : Nat} {gl : List (List W)} {a : Act} {y : V} {v : Value} (hI : Inv Γ B { sl := xs, bx := [], tk := [], gl, ro } a) (h : RV Γ v y) : Inv Γ B { sl := [y], bx := [], tk := [], gl, ro } { tmps := #[v], defers := [] } := by
  refine ⟨Marks.nil, rfl, fun i u z hu hz => ?_, hI.len, hI.bl, hI.ng, hI.boxes, hI.toks, hI.globs, hI.fix, hI.ownlt, hI.base, hI.its⟩
  have hi : i = 0 := by
    have := (List.getElem?_eq_some_iff.1 hz).1
    simpa using this
  subst hi
  simp only [List.getElem?_cons_zero, Option.some.injEq] at hz
  subst hz
  have : u = v := by simpa using hu.symm
  subst this
  exact h
theorem nat_sound {ql : Prop} {P : Program} {f k : Nat} {fn : Func} (hfn : P.funcs[f]? = some fn) (hname : (fn.name == "runtime.NumGoroutine") = false) (hb : fn.body.isNone = true) (h0 : Extern.findNext fn = none) (h1 : Extern.find fn = some (natE k)) :
    Sound P ql (fun f' => if f' = f then natC k f' else fun _ _ _ => none) := by
  intro f' args ro gl r h
  simp only at h
  split at h
  rotate_left
  · cases h
  rename_i he
  subst he
  have run : ∀ (vals : List Value) (w : World) (v : Value), (natE k vals.toArray).run P w = .ok v w → (callFunc f' vals.toArray).run P w = .ok (.value v) w := by
    intro vals w v hv
    simp only [callFunc, Sem.run_bind, run_program, Result.andThen_ok, hfn]
    rw [if_neg (by simp [hname]), if_pos hb]
    simp only [Sem.run_bind, run_mark, Result.andThen_ok, h0, h1, hv]
    rfl
  unfold natC at h
  split at h
  · rename_i s c
    cases h
    refine ⟨.inr fun Γ vals hI => ?_, fun hl => ⟨rfl, hl⟩⟩
    obtain ⟨u, v, rfl, hu, hv⟩ := two_vals hI
    cases hu with
    | str s0 _ hs hm =>
      cases hv
      subst hs
      exact ⟨_, run _ _ _ (Lib.run_indexByteString s0 c Γ.w), res_inv hI (.int .i64 _)⟩
  · rename_i s c
    cases h
    refine ⟨.inr fun Γ vals hI => ?_, fun hl => ⟨rfl, hl⟩⟩
    obtain ⟨u, v, rfl, hu, hv⟩ := two_vals hI
    cases hu with
    | str s0 _ hs hm =>
      cases hv
      subst hs
      exact ⟨_, run _ _ _ (Lib.run_countString s0 c Γ.w), res_inv hI (.int .i64 _)⟩
  · cases h
/-! Functions that are told by what they answer, and shown to answer so later: the evaluator knows an answer just where it is true. -/
open Classical in
noncomputable def natS (P : Program) (spec : List C → List (List W) → Option (V × List (List W))) : Caller := fun f args ro gl => (spec args gl).bind fun r =>
  if (Entered P False f args ro gl r ∨ Native P f args ro gl r) ∧ (ro ≤ gl.length → r.2.take ro = gl.take ro ∧ ro ≤ r.2.length) then some r else none
theorem natS_sound {P : Program} {f : Nat} {spec : List C → List (List W) → Option (V × List (List W))} : Sound P False (fun f' => if f' = f then natS P spec f' else fun _ _ _ => none) := by
  intro f' args ro gl r h
  simp only at h
  split at h
  · unfold natS at h
    rw [Option.bind_eq_some_iff] at h
    obtain ⟨q, _, h⟩ := h
    split at h
    · rename_i hq
      cases h
      exact hq
    · cases h
  · cases h
theorem natS_go {P : Program} {f : Nat} {spec : List C → List (List W) → Option (V × List (List W))} {args : List C} {ro : Nat} {gl : List (List W)} {r : V × List (List W)} (hs : spec args gl = some r) (h : Entered P False f args ro gl r ∨ Native P f args ro gl r)
    (hr : ro ≤ gl.length → r.2.take ro = gl.take ro ∧ ro ≤ r.2.length) : natS P spec f args ro gl = some r := by
  unfold natS
  rw [hs, Option.bind_some, if_pos ⟨h, hr⟩]
def joinB (sep : List UInt8) : List (List UInt8) → List UInt8
  | [] => []
  | [a] => a
  | a :: b :: r => a ++ (sep ++ joinB sep (b :: r))
def strsD : List (List D) → Option (List (List UInt8))
  | [] => some []
  | [.str s] :: r => (strsD r).map fun l => s :: l
  | _ :: _ => none
def strsW : List W → Option (List (List UInt8))
  | [] => some []
  | .d (.str s) :: r => (strsW r).map fun l => s :: l
  | _ :: _ => none
/-- strings.Join. -/
def specJ : List C → List (List W) → Option (V × List (List W))
  | [.w (.d (.sl xs)), .w (.d (.str sep))], gl => (strsD xs).map fun l => (V.str (joinB sep l), gl)
  | [.w (.gsl o off n _ 1), .w (.d (.str sep))], gl => (gl[o]?).bind fun cs => (cut cs off n).bind fun ws => (strsW ws).map fun l => (V.str (joinB sep l), gl)
  | _, _ => none
/-- Four numbers. -/
structure Q4 where
  a : Int
  b : Int
  c : Int
  d : Int
deriving DecidableEq, Inhabited
def Q4.l (q : Q4) : List Int := [q.a, q.b, q.c, q.d]
def Q4.w (q : Q4) : C := .agg [.d (.int .i64 q.a), .d (.int .i64 q.b), .d (.int .i64 q.c), .d (.int .i64 q.d)]
def Q4.ws (q : Q4) : List W := [.d (.int .i64 q.a), .d (.int .i64 q.b), .d (.int .i64 q.c), .d (.int .i64 q.d)]
def cmpL : List Int → List Int → Int
  | [], [] => 0
  | [], _ :: _ => -1
  | _ :: _, [] => 1
  | a :: r, b :: q => if a < b then -1 else if b < a then 1 else cmpL r q
def cellsQ (l : List Q4) : List W := l.flatMap Q4.ws
def q4W : List W → Option (List Q4)
  | [] => some []
  | .d (.int .i64 a) :: .d (.int .i64 b) :: .d (.int .i64 c) :: .d (.int .i64 d) :: r => (q4W r).map fun l => ⟨a, b, c, d⟩ :: l
  | _ => none
theorem q4W_cells : ∀ l : List Q4, q4W (cellsQ l) = some l
  | [] => rfl
  | q :: l => by
    have : cellsQ (q :: l) = .d (.int .i64 q.a) :: .d (.int .i64 q.b) :: .d (.int .i64 q.c) :: .d (.int .i64 q.d) :: cellsQ l := rfl
    rw [this, q4W, q4W_cells l]
    rfl
theorem cellsQ_len (l : List Q4) : (cellsQ l).length = l.length * 4 := by
  induction l with
  | nil => rfl
  | cons q l ih =>
    have : cellsQ (q :: l) = q.ws ++ cellsQ l := rfl
    rw [this, List.length_append, ih, List.length_cons]
    simp only [Q4.ws, List.length_cons, List.length_nil]
    omega
def sortQ (l : List Q4) : List Q4 := l.mergeSort fun x y => !decide (cmpL y.l x.l < 0)
/-- slices.SortFunc at rows of four numbers, under the order of rows. -/
def specS : List C → List (List W) → Option (V × List (List W))
  | [.w (.gsl o 0 n _ 4), .w (.fn _ [])], gl => (gl[o]?).bind fun cs => (q4W (cs.take (n * 4))).map fun l => (V.no, gl.set o (cellsQ (sortQ l) ++ cs.drop (n * 4)))
  | _, _ => none
noncomputable def natX (P : Program) : Nat → Caller
  | 0 => natC 0
  | 1 => natC 1
  | 2 => natS P specJ
  | _ => natS P specS
end Go.Proofs.YtckonoejmjblfaaGreatDoor.Ev
