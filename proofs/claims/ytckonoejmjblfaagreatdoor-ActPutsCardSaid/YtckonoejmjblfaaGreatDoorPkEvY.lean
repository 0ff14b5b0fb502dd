/- Operators, conversions, slices of slices; all operations that turn nothing, together. -/
import Derived.Test.YtckonoejmjblfaaGreatDoorPkEvX
import Derived.Laws.AppendOwn
set_option linter.unusedVariables false
set_option linter.unusedSimpArgs false
namespace Go.Proofs.YtckonoejmjblfaaGreatDoor.Ev
open Go Go.RowKit

section
variable {P : Program} {Γ : Ctx}

theorem bound_sound {B : Nat} {s : St} {a : Act} (hI : Inv Γ B s a) {x : Operand} {top n : Nat} {dflt : Nat} (h : boundV s (some x) dflt top = some n) (y : Nat) (hy : top ≤ y) (c : BoundsCode) :
    (Instr.sliceBound (a.eval x) y c).run P Γ.w = .ok n Γ.w ∧ n ≤ top := by
  simp only [boundV, Option.bind_eq_some_iff] at h
  obtain ⟨v, hv, i, hi, h⟩ := h
  split at h
  · rename_i hr
    cases h
    obtain ⟨k, hk⟩ := intOf_sound (ev_sound hI hv) hi
    refine ⟨?_, by omega⟩
    have : 0 ≤ i ∧ i ≤ (y : Int) := by omega
    simp [Instr.sliceBound, hk, asIntOf, this]
  · cases h

theorem bounds_sound {B : Nat} {s : St} {a : Act} (hI : Inv Γ B s a) {lo hi : Option Operand} {len cap h l : Nat} (q : Bool) (hc : len ≤ cap) (hh : boundV s hi len len = some h) (hl : boundV s lo 0 h = some l) :
    (Instr.sliceBounds q len cap (lo.map a.eval) (hi.map a.eval) none).run P Γ.w = .ok (l, h, cap) Γ.w ∧ l ≤ h ∧ h ≤ len := by
  have h1 : h ≤ len ∧ ∀ c, (match hi.map a.eval with | some v => Instr.sliceBound v cap c | none => (pure len : Sem Nat)).run P Γ.w = .ok h Γ.w := by
    cases hi with
    | none => simp only [boundV, Option.some.injEq] at hh; subst hh; exact ⟨Nat.le_refl _, fun _ => rfl⟩
    | some x => exact ⟨(bound_sound (P := P) hI hh cap hc .index).2, fun c => (bound_sound hI hh cap hc c).1⟩
  have h2 : l ≤ h ∧ ∀ c, (match lo.map a.eval with | some v => Instr.sliceBound v h c | none => (pure 0 : Sem Nat)).run P Γ.w = .ok l Γ.w := by
    cases lo with
    | none => simp only [boundV, Option.some.injEq] at hl; subst hl; exact ⟨Nat.zero_le _, fun _ => rfl⟩
    | some x => exact ⟨(bound_sound (P := P) hI hl h (Nat.le_refl _) .index).2, fun c => (bound_sound hI hl h (Nat.le_refl _) c).1⟩
  refine ⟨?_, h2.1, h1.1⟩
  have e1 := h1.2 (if q then .sliceAcap else .sliceAlen)
  have e2 := h2.2 .sliceB
  cases hi <;> cases lo <;> simp_all [Instr.sliceBounds]

theorem bounds_sound2 {B : Nat} {s : St} {a : Act} (hI : Inv Γ B s a) {lo hi : Option Operand} {len cap h l m : Nat} (q : Bool) (hc : len ≤ cap) (hnm : len ≤ m) (hm : m ≤ cap) (hh : boundV s hi len m = some h) (hl : boundV s lo 0 h = some l) :
    (Instr.sliceBounds q len cap (lo.map a.eval) (hi.map a.eval) none).run P Γ.w = .ok (l, h, cap) Γ.w ∧ l ≤ h ∧ h ≤ m := by
  have h1 : h ≤ m ∧ ∀ c, (match hi.map a.eval with | some v => Instr.sliceBound v cap c | none => (pure len : Sem Nat)).run P Γ.w = .ok h Γ.w := by
    cases hi with
    | none => simp only [boundV, Option.some.injEq] at hh; subst hh; exact ⟨hnm, fun c => rfl⟩
    | some x =>
      obtain ⟨k1, k2⟩ := bound_sound (P := P) hI (dflt := len) hh cap hm .sliceB
      exact ⟨k2, fun c => (bound_sound (P := P) hI (dflt := len) hh cap hm c).1⟩
  have h2 : l ≤ h ∧ ∀ c, (match lo.map a.eval with | some v => Instr.sliceBound v h c | none => (pure 0 : Sem Nat)).run P Γ.w = .ok l Γ.w := by
    cases lo with
    | none => simp only [boundV, Option.some.injEq] at hl; subst hl; exact ⟨Nat.zero_le _, fun c => rfl⟩
    | some x =>
      obtain ⟨k1, k2⟩ := bound_sound (P := P) hI (dflt := 0) hl h (Nat.le_refl _) .sliceB
      exact ⟨k2, fun c => (bound_sound (P := P) hI (dflt := 0) hl h (Nat.le_refl _) c).1⟩
  refine ⟨?_, h2.1, h1.1⟩
  have e1 := h1.2 (if q then .sliceAcap else .sliceAlen)
  have e2 := h2.2 .sliceB
  cases hi <;> cases lo <;> simp_all [Instr.sliceBounds]
theorem empty_sound {B : Nat} {s : St} {a : Act} (hI : Inv Γ B s a) {v : Value} {x y : V} {t : TypeId} {hi mx : Option Operand} (h : RV Γ v x) (hx : emptyA P s t x hi mx = some y) :
    ∃ u, (Instr.sliceAt t v none (hi.map a.eval) (mx.map a.eval)).run P Γ.w = .ok u Γ.w ∧ RV Γ u y := by
  unfold emptyA at hx
  split at hx
  · rename_i e x hh hm hu
    simp only [Option.bind_eq_some_iff] at hx
    obtain ⟨z, hz, q, hq, va, hva, ia, hia, vb, hvb, ib, hib, hx⟩ := hx
    split at hx
    · rename_i h0
      obtain ⟨rfl, rfl⟩ := h0
      cases hx
      obtain ⟨k1, e1⟩ := intOf_sound (ev_sound hI hva) hia
      obtain ⟨k2, e2⟩ := intOf_sound (ev_sound hI hvb) hib
      obtain ⟨A, n, c, rfl, hA⟩ : ∃ A n c, v = .slice A n c ∧ c ≤ maxLen := by
        split at hq
        · obtain ⟨c, rfl, _, _, h3, _⟩ := h; exact ⟨_, _, c, rfl, h3⟩
        · rw [Option.map_eq_some_iff] at hq
          obtain ⟨xs, hxs, _⟩ := hq
          have hd := elems_sound h hxs
          cases hd with
          | sl A m c _ _ _ _ _ hm => exact ⟨_, _, _, rfl, hm⟩
      refine ⟨.slice A 0 0, ?_, ⟨RD.sl _ _ _ 0 [] (fun _ _ => undef) rfl (Nat.le_refl _) (by simp [maxLen]) (fun _ => rfl) (by simp) (fun a _ i j hi _ => by omega) (by simp), _, _, rfl⟩⟩
      simp [Instr.sliceAt, Instr.slice, run_underlying hu, Instr.sliceBounds, Instr.sliceBound, e1, e2, asIntOf, run_szOf hz]
    · cases hx
  · cases hx
theorem less_sound {less : Bool} {v v' : Value} {x y z : V} (hx : RV Γ v x) (hy : RV Γ v' y) (h : lessA less x y = some z) (w : World) (ty : TypeId) (ts : Array TypeId) :
    ∃ u, (if less then Builtin.min_ ts ty #[v, v'] else Builtin.max_ ts ty #[v, v']).run P w = .ok u w ∧ RV Γ u z := by
  unfold lessA at h
  split at h
  · split at h
    · rename_i hk
      cases hk
      cases h
      cases hx
      cases hy
      cases less
      · exact ⟨_, by simp [Builtin.max_, Builtin.max2], RD.int _ _⟩
      · exact ⟨_, by simp [Builtin.min_, Builtin.min2], RD.int _ _⟩
    · cases h
  · cases h
theorem slice_sound {B : Nat} {s : St} {a : Act} (hI : Inv Γ B s a) {v : Value} {x y : V} {t : TypeId} {lo hi : Option Operand} (h : RV Γ v x) (hx : sliceA P s t x lo hi = some y) :
    ∃ u, (Instr.sliceAt t v (lo.map a.eval) (hi.map a.eval) none).run P Γ.w = .ok u Γ.w ∧ RV Γ u y := by
  unfold sliceA at hx
  split at hx
  · rename_i l hu
    simp only [Option.bind_eq_some_iff, Option.map_eq_some_iff] at hx
    obtain ⟨hh, hhi, b, hlo, rfl⟩ := hx
    cases h with
    | str s' _ hl hs =>
      have hsz := str_size hl
      rw [← hsz] at hhi
      obtain ⟨hb, hbl, hbh⟩ := bounds_sound (P := P) hI false (Nat.le_refl _) hhi hlo
      refine ⟨.string (s'.extract b hh), by simp [Instr.sliceAt, Instr.slice, run_underlying hu, hb], RD.str _ _ ?_ ?_⟩
      · rw [ByteArray.data_extract, Array.toList_extract, List.extract_eq_take_drop, hl, List.drop_take]
      · have : (s'.extract b hh).size = hh - b := by rw [ByteArray.size_extract]; omega
        omega
  · rename_i e o off n m z hu
    rw [Option.bind_eq_some_iff] at hx
    obtain ⟨z', hz, hx⟩ := hx
    split at hx
    · rename_i hzz
      subst hzz
      simp only [Option.bind_eq_some_iff, Option.map_eq_some_iff] at hx
      obtain ⟨hh, hhi, b, hlo, rfl⟩ := hx
      obtain ⟨c, rfl, hnm, hmc, hcm, hsz, ho⟩ := h
      obtain ⟨hb, hbl, hbh⟩ := bounds_sound2 (P := P) hI true (cap := c) (by omega) hnm hmc hhi hlo
      refine ⟨.slice (some (if c = b then ⟨Γ.glo o, off, none⟩ else (⟨Γ.glo o, off, none⟩ : Addr).add (b * z'))) (hh - b) (c - b), ?_, ?_⟩
      · have : (if c = b then some (⟨Γ.glo o, off, none⟩ : Addr) else (some (⟨Γ.glo o, off, none⟩ : Addr)).map (·.add (b * z'))) = some (if c = b then ⟨Γ.glo o, off, none⟩ else (⟨Γ.glo o, off, none⟩ : Addr).add (b * z')) := by split <;> rfl
        simp [Instr.sliceAt, Instr.slice, run_underlying hu, hb, run_szOf hz, ← this]
      · by_cases hbm : b = m
        · rw [if_pos hbm]
          refine RD.sl _ _ _ 0 [] (fun _ _ => undef) (by simp; omega) (by omega) (by omega) (fun hn => by cases hn) (by simp) (fun a _ i j hi _ => by omega) (by simp)
        · rw [if_neg hbm]
          refine ⟨c - b, ?_, by omega, by omega, by omega, ?_, ho⟩
          · rw [if_neg (by omega), add_plain]
          · have : b * z' + (c - b) * z' = c * z' := by rw [← Nat.add_mul]; congr 1; omega
            omega
    · cases hx
  · rename_i e x' _ hu
    simp only [Option.bind_eq_some_iff] at hx
    obtain ⟨xs, hxs, z, hz, hx⟩ := hx
    split at hx
    · rename_i hall
      simp only [Option.bind_eq_some_iff, Option.map_eq_some_iff] at hx
      obtain ⟨hh, hhi, b, hlo, rfl⟩ := hx
      have hd := elems_sound h hxs
      cases hd with
      | sl A m c sz _ vs hm hc hmx hA hsz hcell hdd =>
        subst hm
        obtain ⟨hb, hbl, hbh⟩ := bounds_sound (P := P) hI true hc hhi hlo
        refine ⟨.slice (if c = b then A else A.map (·.add (b * z))) (hh - b) (c - b), by simp [Instr.sliceAt, Instr.slice, run_underlying hu, hb, run_szOf hz], ?_⟩
        refine .sl _ _ _ z _ (fun i j => vs (b + i) j) (by simp; omega) (by omega) (by omega) (fun hn => ?_) (fun i x hix => ?_) (fun ad had i j hi hj => ?_) (fun i j x d hix hjd => ?_)
        · split at hn
          · omega
          · cases A with
            | none => have := hA rfl; omega
            | some ad => simp at hn
        · have hmem := List.mem_of_getElem? hix
          have := List.all_eq_true.1 hall x (List.mem_of_mem_take (List.mem_of_mem_drop hmem))
          simpa using this
        · have hlt : b + i < xs.length := by omega
          have hzz : sz = z := by
            have h1 := hsz (b + i) _ (List.getElem?_eq_getElem hlt)
            have h2 := List.all_eq_true.1 hall _ (List.getElem_mem hlt)
            simp at h2
            omega
          subst hzz
          rw [if_neg (by omega)] at had
          cases A with
          | none => simp at had
          | some a0 =>
            simp only [Option.map_some, Option.some.injEq] at had
            subst had
            have := hcell a0 rfl (b + i) j hlt hj
            rw [add_add, show b * sz + (i * sz + j) = (b + i) * sz + j by rw [Nat.add_mul]; omega]
            exact this
        · rw [List.getElem?_drop, List.getElem?_take] at hix
          split at hix
          · exact hdd (b + i) j x d hix hjd
          · cases hix
    · cases hx
  · rename_i m e cs hu
    rw [Option.bind_eq_some_iff] at hx
    obtain ⟨z, hz, hx⟩ := hx
    split at hx
    · rename_i hcond
      simp only [Option.bind_eq_some_iff, Option.map_eq_some_iff] at hx
      obtain ⟨hh, hhi, b, hlo, rfl⟩ := hx
      obtain ⟨ad, rfl, vs, hcell⟩ := h
      obtain ⟨hb, hbl, hbh⟩ := bounds_sound (P := P) hI false (Nat.le_refl _) hhi hlo
      refine ⟨.slice (some (if m = b then ad else ad.add (b * z))) (hh - b) (m - b), by simp [Instr.sliceAt, run_underlying hu, Instr.sureAddr, hb, run_szOf hz], ?_⟩
      refine .sl _ _ _ z _ (fun i j => vs ((b + i) * z + j)) (by simp [chunk_len]; omega) (by omega) (by simp only [maxLen]; omega) (fun hn => by cases hn) (fun i x hix => ?_) (fun a' had i j hi hj => ?_) (fun i j x d hix hjd => ?_)
      · rw [List.getElem?_drop, List.getElem?_take] at hix
        split at hix
        · have hlt : b + i < m := by omega
          rw [chunk_get z m cs _ x hix]
          simp only [List.length_take, List.length_drop, hcond.1]
          have : (b + i + 1) * z ≤ m * z := Nat.mul_le_mul_right _ hlt
          rw [Nat.add_mul] at this
          omega
        · cases hix
      · have hlt : b + i < m := by omega
        rw [if_neg (by omega)] at had
        cases had
        have hq : (b + i) * z + j < cs.length := by
          rw [hcond.1]
          have : (b + i + 1) * z ≤ m * z := Nat.mul_le_mul_right _ hlt
          rw [Nat.add_mul] at this
          omega
        have := hcell ((b + i) * z + j) _ (List.getElem?_eq_getElem hq)
        rw [add_add, show b * z + (i * z + j) = (b + i) * z + j by rw [Nat.add_mul]; omega]
        exact ⟨this.1, this.2.1⟩
      · rw [List.getElem?_drop, List.getElem?_take] at hix
        split at hix
        · rw [chunk_get z m cs _ x hix, List.getElem?_take] at hjd
          split at hjd
          · rw [List.getElem?_drop] at hjd
            exact (hcell _ d hjd).2.2
          · cases hjd
        · cases hix
    · cases hx
  · rename_i m e k off hu
    rw [Option.bind_eq_some_iff] at hx
    obtain ⟨z, hz, hx⟩ := hx
    split at hx
    · rename_i hcond
      simp only [Option.bind_eq_some_iff, Option.map_eq_some_iff] at hx
      obtain ⟨hh, hhi, b, hlo, rfl⟩ := hx
      obtain ⟨rfl, hbl'⟩ := h
      obtain ⟨hb, hbl, hbh⟩ := bounds_sound (P := P) hI false (Nat.le_refl _) hhi hlo
      refine ⟨.slice (some (if m = b then ⟨Γ.box k, off, none⟩ else (⟨Γ.box k, off, none⟩ : Addr).add (b * z))) (hh - b) (m - b), by simp [Instr.sliceAt, run_underlying hu, ptr, Instr.sureAddr, hb, run_szOf hz], _, _, rfl, fun h0 => ?_, by omega, hbl'⟩
      rw [if_neg (by omega), add_plain]
    · cases hx
  · cases hx

/-! operators -/
theorem int_sound {op : BinOp} {k : IntKind} {x y : Int} {d : D} (h : intOp op k x y = some d) (hs : op ≠ .shl ∧ op ≠ .shr) (t : TypeId) (w : World) :
    ∃ u, (binOp op t (.int k x) (.int k y)).run P w = .ok u w ∧ RD Γ.F Γ.w u d := by
  cases op <;> simp only [intOp, Option.some.injEq, reduceCtorEq] at h
  case quo =>
    split at h
    · cases h
    · rename_i h0
      cases h
      exact ⟨_, by simp only [binOp, ne_eq, not_true_eq_false, if_false, Op.intDiv, h0]; rfl, .int _ _⟩
  case rem =>
    split at h
    · cases h
    · rename_i h0
      cases h
      exact ⟨_, by simp only [binOp, ne_eq, not_true_eq_false, if_false, Op.intDiv, h0]; rfl, .int _ _⟩
  all_goals
    subst h
    first
      | exact ⟨_, by simp only [binOp, ne_eq, not_true_eq_false, if_false]; rfl, .int _ _⟩
      | exact ⟨_, by simp only [binOp, ne_eq, not_true_eq_false, if_false]; rfl, .bool _⟩
theorem shift_sound {op : BinOp} {k k' : IntKind} {x y : Int} {d : D} (h : shiftOp op k x y = some d) (t : TypeId) (w : World) :
    ∃ u, (binOp op t (.int k x) (.int k' y)).run P w = .ok u w ∧ RD Γ.F Γ.w u d := by
  unfold shiftOp at h
  split at h
  · cases h
  · rename_i h0
    cases op <;> simp only [Option.some.injEq, reduceCtorEq] at h
    all_goals
      subst h
      exact ⟨_, by simp [binOp, Op.shift, h0], .int _ _⟩
theorem str_sound {op : BinOp} {x y : ByteArray} {l m : List UInt8} {d : D} (hl : x.data.toList = l) (hm : y.data.toList = m) (h : strOp op l m = some d) (t : TypeId) (w : World) :
    ∃ u, (binOp op t (.string x) (.string y)).run P w = .ok u w ∧ RD Γ.F Γ.w u d := by
  have e1 : x.toList = l := by rw [ByteArray.toList_eq, hl]
  have e2 : y.toList = m := by rw [ByteArray.toList_eq, hm]
  have s1 := str_size hl
  have s2 := str_size hm
  cases op <;> simp only [strOp, Option.some.injEq, reduceCtorEq] at h
  case add =>
    split at h
    · rename_i hle
      cases h
      refine ⟨.string (x ++ y), ?_, .str _ _ ?_ ?_⟩
      · have : ¬ ((x.size + y.size : Nat) : Int) > IntKind.i64.max := by
          have hmx : IntKind.i64.max = 9223372036854775807 := by decide
          simp only [maxLen] at hle
          omega
        simp only [binOp, Op.stringOp]
        rw [if_neg this]
        rfl
      · rw [ByteArray.data_append, Array.toList_append, hl, hm]
      · rw [ByteArray.size_append]
        omega
    · cases h
  all_goals
    subst h
    refine ⟨_, ?_, .bool _⟩
    simp only [binOp, Op.stringOp, e1, e2]
    rfl

/-- A value of a type, as closed cells. -/
def Fits (P : Program) (Γ : Ctx) (t : TypeId) (v : Value) (xs : List D) : Prop :=
  (isAggT P t = some true ∧ ∃ cs : Array Value, v = .agg cs ∧ All2 (RD Γ.F Γ.w) cs.toList xs) ∨ (isAggT P t = some false ∧ ∃ d, xs = [d] ∧ RD Γ.F Γ.w v d)
theorem fits_part {t : TypeId} {n off : Nat} {cs : Array Value} {xs ys : List D} {b : Bool} (hb : isAggT P t = some b) (hn : szOf P t = some n) (ha : All2 (RD Γ.F Γ.w) cs.toList xs) (hc : cut xs off n = some ys) (h1 : b = false → n = 1) (w : World) :
    ∃ u, (part t cs off).run P w = .ok u w ∧ Fits P Γ t u ys := by
  obtain ⟨hle, rfl, hl⟩ := cut_spec hc
  have hal := ha.1
  simp at hal
  cases b with
  | true =>
    refine ⟨.agg (cs.extract off (off + n)), by simp [part, run_isAggT hb, run_szOf hn], .inl ⟨hb, _, rfl, ?_⟩⟩
    have he : (cs.extract off (off + n)).toList = (cs.toList.drop off).take n := by simp [List.extract_eq_take_drop]
    rw [he]
    exact (ha.drop off).take n
  | false =>
    obtain rfl := h1 rfl
    have hoff : off < cs.size := by omega
    have hx : xs[off]? = some (xs[off]'(by omega)) := List.getElem?_eq_getElem (by omega)
    refine ⟨cs[off], by simp [part, run_isAggT hb, hoff], .inr ⟨hb, xs[off]'(by omega), ?_, ha.2 off _ _ (by simp [hoff]) hx⟩⟩
    refine List.ext_getElem? fun i => ?_
    cases i with
    | zero => rw [List.getElem?_take_of_lt (by omega), List.getElem?_drop]; simp
    | succ i => simp; omega
theorem isAgg_of {t : TypeId} {u : TypeDesc} (h : P.underlying t = some u) : isAggT P t = some (aggD u) := by
  simp only [isAggT, h, Option.map_some]
theorem eqVal_agg {n : Nat} {t : TypeId} {xs ys : List D} {q : Bool} (h : eqVal P n t xs ys = some q) : ∃ u, P.underlying t = some u ∧ (isAggT P t = some false → xs.length = 1) := by
  cases n with
  | zero => simp [eqVal] at h
  | succ n =>
    unfold eqVal at h
    split at h
    · rename_i hu; exact ⟨_, hu, fun hf => by rw [isAgg_of hu] at hf; cases hf⟩
    · rename_i hu; exact ⟨_, hu, fun hf => by rw [isAgg_of hu] at hf; cases hf⟩
    · rename_i hu; split at h
      · exact ⟨_, hu, fun _ => rfl⟩
      · cases h
    · rename_i hu; split at h
      · exact ⟨_, hu, fun _ => rfl⟩
      · cases h
    · rename_i hu; split at h
      · exact ⟨_, hu, fun _ => rfl⟩
      · cases h
    · cases h

theorem eqVal_sound : ∀ (n : Nat) (t : TypeId) (xs ys : List D) (q : Bool), eqVal P n t xs ys = some q → ∀ (x y : Value) (m : Nat) (w : World), Fits P Γ t x xs → Fits P Γ t y ys → n ≤ m → (Op.equalIn m t x y).run P w = .ok q w
  | 0, t, xs, ys, q, h, _, _, _, _, _, _, _ => by simp [eqVal] at h
  | n + 1, t, xs, ys, q, h, x, y, m, w, hx, hy, hm => by
    obtain ⟨m, rfl⟩ : ∃ k, m = k + 1 := ⟨m - 1, by omega⟩
    unfold eqVal at h
    split at h
    · rename_i fs hu
      have hag := isAgg_of hu
      obtain ⟨_, cx, rfl, ax⟩ := hx.resolve_right (fun k => by rw [hag] at k; cases k.1)
      obtain ⟨_, cy, rfl, ay⟩ := hy.resolve_right (fun k => by rw [hag] at k; cases k.1)
      split at h
      · cases h
      · rename_i hst
        have hfo : P.fieldsOf t = fs := by simp [Program.fieldsOf, hu]
        rw [run_equalIn_struct w m t cx cy (by rw [hfo]; exact hu) (by simpa using hst), hfo]
        generalize fs.toList = l at h
        induction l generalizing w with
        | nil => simp only [eqVal.go, Option.some.injEq] at h; subst h; rfl
        | cons f r ih =>
          simp only [eqVal.go] at h
          split at h
          · cases h
          · rename_i hname
            simp only [Option.bind_eq_some_iff] at h
            obtain ⟨z, hz, a, ha, b, hb, q', hq, h⟩ := h
            obtain ⟨u, hu', hl⟩ := eqVal_agg hq
            obtain ⟨_, _, la⟩ := cut_spec ha
            have h1 : (aggD u) = false → z = 1 := fun e => by rw [← la]; exact hl (by rw [isAgg_of hu', e])
            obtain ⟨va, ra, fa⟩ := fits_part (isAgg_of hu') hz ax ha h1 w
            obtain ⟨vb, rb, fb⟩ := fits_part (isAgg_of hu') hz ay hb h1 w
            have hr := eqVal_sound n f.type a b q' hq va vb m w fa fb (by omega)
            simp only [Op.eqFields, ne_eq, hname, not_false_eq_true, if_true, Sem.run_bind, ra, rb, hr, Result.andThen_ok]
            cases q' with
            | false => simp only [Bool.false_eq_true, if_false, Option.some.injEq] at h; subst h; rfl
            | true => simp only [if_true] at h; simpa using ih w h
    · rename_i len e hu
      have hag := isAgg_of hu
      obtain ⟨_, cx, rfl, ax⟩ := hx.resolve_right (fun k => by rw [hag] at k; cases k.1)
      obtain ⟨_, cy, rfl, ay⟩ := hy.resolve_right (fun k => by rw [hag] at k; cases k.1)
      rw [Option.bind_eq_some_iff] at h
      obtain ⟨z, hz, h⟩ := h
      simp only [Op.equalIn, Sem.run_bind, run_underlying hu, Result.andThen_ok, run_szOf hz, Std.Legacy.Range.forIn_eq_forIn_range', Std.Legacy.Range.size]
      have hrange : List.range' 0 ((len - 0 + 1 - 1) / 1) 1 = List.range len := by rw [List.range_eq_range']; congr 1; simp
      simp only [hrange]
      generalize List.range len = l at h
      clear hrange
      induction l generalizing w with
      | nil => simp only [eqVal.goA, Option.some.injEq] at h; subst h; simp
      | cons i r ih =>
        simp only [eqVal.goA, Option.bind_eq_some_iff] at h
        obtain ⟨a, ha, b, hb, q', hq, h⟩ := h
        obtain ⟨u, hu', hl⟩ := eqVal_agg hq
        obtain ⟨_, _, la⟩ := cut_spec ha
        have h1 : (aggD u) = false → z = 1 := fun e => by rw [← la]; exact hl (by rw [isAgg_of hu', e])
        obtain ⟨va, ra, fa⟩ := fits_part (isAgg_of hu') hz ax ha h1 w
        obtain ⟨vb, rb, fb⟩ := fits_part (isAgg_of hu') hz ay hb h1 w
        have hr := eqVal_sound n e a b q' hq va vb m w fa fb (by omega)
        simp only [List.forIn_cons, Sem.run_bind, ra, rb, hr, Result.andThen_ok]
        cases q' with
        | false => simp only [Bool.false_eq_true, if_false, Option.some.injEq] at h; subst h; simp
        | true => simp only [if_true] at h; simpa using ih w h
    all_goals try (cases h; done)
    all_goals
      rename_i hu
      have hag := isAgg_of hu
      obtain ⟨_, dx, ex, rx⟩ := hx.resolve_left (fun k => by rw [hag] at k; cases k.1)
      obtain ⟨_, dy, ey, ry⟩ := hy.resolve_left (fun k => by rw [hag] at k; cases k.1)
      subst ex
      subst ey
      split at h
      · rename_i e1 e2
        cases e1
        cases e2
        cases rx
        cases ry
        first
          | (split at h
             · rename_i hk; subst hk; cases h; exact run_equalIn_int w m t _ _ _ _ hu
             · cases h)
          | (cases h; exact run_equalIn_bool' w m t _ _ hu)
          | (cases h
             rename_i s1 z1 l1 s2 z2 l2
             rw [run_equalIn_string w m t _ _ hu, ByteArray.toList_eq, ByteArray.toList_eq, l1, l2])
      · cases h

theorem guard_plain (op : BinOp) (t : TypeId) (x y : Operand) (a b : Value) (h : ¬ (a = .nilIface ∧ b = .nilIface)) (h2 : ¬ ((∃ cs, a = .agg cs) ∧ ∃ cs, b = .agg cs)) (w : World) : (eqGuard op t x y a b).run P w = .ok () w := by
  cases op <;> first | rfl | skip
  all_goals
    unfold eqGuard
    simp only [Bool.not_true, Bool.false_eq_true, if_false]
    split
    · exact absurd ⟨rfl, rfl⟩ h
    · exact absurd ⟨⟨_, rfl⟩, ⟨_, rfl⟩⟩ h2
    · rfl
theorem isAgg_fits {t : TypeId} {u : TypeDesc} {v : Value} {cs : Array Value} {xs : List W} {ds : List D} (hu : P.underlying t = some u) (hv : v = .agg cs) (ha : All2 (RW Γ) cs.toList xs) (hc : closes xs = some ds) (hagg : aggD u = true) : Fits P Γ t v ds :=
  .inl ⟨by rw [isAgg_of hu, hagg], cs, hv, closes_sound ha hc⟩
theorem eqVal_under {n : Nat} {t : TypeId} {xs ys : List D} {q : Bool} (h : eqVal P n t xs ys = some q) : ∃ u, P.underlying t = some u := (eqVal_agg h).imp fun _ k => k.1

theorem eqB_sound {v v' : Value} {x y : C} {t : TypeId} {q : Bool} (hx : RC Γ v x) (hy : RC Γ v' y) (h : eqOp.eqB P t x y = some q) (w : World) (o1 o2 : Operand) (op : BinOp) :
    (eqGuard op t o1 o2 v v').run P w = .ok () w ∧ (∀ n, 8 ≤ n → (Op.equalIn (n + 1) t v v').run P w = .ok q w) ∧ ((∃ a b, v = .bool a ∧ v' = .bool b) ∨ (∃ a b, v = .pointer a ∧ v' = .pointer b) ∨ ∃ a b, v = .agg a ∧ v' = .agg b) := by
  have ptr : ∀ (n : Nat) (p q' : Option Addr) (e : TypeId), P.underlying t = some (.pointer e) → (p = none ∨ q' = none) → (Op.equalIn (n + 1) t (.pointer p) (.pointer q')).run P w = .ok (p.isNone && q'.isNone) w := by
    intro n p q' e hu hh
    cases p <;> cases q' <;> simp [Op.equalIn, run_underlying hu]
    simp at hh
  have nn : ∀ {u : Value} {z : W} {b : Bool}, RW Γ u z → isNilW z = some b → ∃ p : Option Addr, u = .pointer p ∧ p.isNone = b := by
    intro u z b hu hz
    cases z <;> simp only [isNilW, Option.some.injEq, reduceCtorEq] at hz
    case nil => subst hz; exact ⟨none, hu, rfl⟩
    case glo => subst hz; exact ⟨_, hu.1, rfl⟩
    case box => subst hz; exact ⟨_, hu.1, rfl⟩
  unfold eqOp.eqB at h
  split at h
  · cases hx
    cases hy
    split at h
    · rename_i hu
      cases h
      exact ⟨guard_plain _ _ _ _ _ _ (by simp) (by simp) _, fun n _ => run_equalIn_bool' w n t _ _ hu, .inl ⟨_, _, rfl, rfl⟩⟩
    · cases h
  · split at h
    · rename_i e hu
      obtain ⟨p, rfl, rfl⟩ := nn hx h
      cases hy
      refine ⟨guard_plain _ _ _ _ _ _ (by simp) (by simp) _, fun n _ => ?_, .inr (.inl ⟨_, _, rfl, rfl⟩)⟩
      rw [ptr n p none e hu (.inr rfl)]
      simp
    · cases h
  · split at h
    · rename_i e hu
      obtain ⟨p, rfl, rfl⟩ := nn hy h
      cases hx
      refine ⟨guard_plain _ _ _ _ _ _ (by simp) (by simp) _, fun n _ => ?_, .inr (.inl ⟨_, _, rfl, rfl⟩)⟩
      rw [ptr n none p e hu (.inl rfl)]
      simp
    · cases h
  · split at h
    · cases h
    · rename_i hg
      simp only [Option.bind_eq_some_iff] at h
      obtain ⟨a, ha, b, hb, h⟩ := h
      obtain ⟨ca, rfl, h1, _⟩ := hx
      obtain ⟨cb, rfl, h2, _⟩ := hy
      obtain ⟨u, hu, hl⟩ := eqVal_agg h
      simp only [Bool.or_eq_true, not_or, Bool.not_eq_true, Bool.not_eq_false', beq_iff_eq] at hg
      have fit : ∀ {cs : Array Value} {ds : List D}, All2 (RD Γ.F Γ.w) cs.toList ds → Fits P Γ t (.agg cs) ds := fun k => .inl ⟨hg.2, _, rfl, k⟩
      exact ⟨run_eqGuard_agg w op t o1 o2 ca cb hg.1, fun n hn => eqVal_sound 8 t a b q h _ _ (n + 1) w (fit (closes_sound h1 ha)) (fit (closes_sound h2 hb)) (by omega), .inr (.inr ⟨_, _, rfl, rfl⟩)⟩
  · cases h

theorem bin_sound {v v' : Value} {x y z : V} {t : TypeId} {op : BinOp} (hx : RV Γ v x) (hy : RV Γ v' y) (h : binA P op t x y = some z) (w : World) (o1 o2 : Operand) :
    ∃ u, (do eqGuard op t o1 o2 v v'; binOp op t v v' : Sem Value).run P w = .ok u w ∧ RV Γ u z := by
  unfold binA at h
  split at h
  · rename_i k a k' b
    cases hx
    cases hy
    have hg := guard_plain (P := P) op t o1 o2 (.int k a) (.int k' b) (by simp) (by simp) w
    have sh : ∀ d, shiftOp op k a b = some d → ∃ u, (do eqGuard op t o1 o2 (.int k a) (.int k' b); binOp op t (.int k a) (.int k' b) : Sem Value).run P w = .ok u w ∧ RV Γ u (V.d d) := by
      intro d hd
      obtain ⟨u, hr, hu⟩ := shift_sound (P := P) (Γ := Γ) (k' := k') hd t w
      exact ⟨u, by simp only [Sem.run_bind, hg, Result.andThen_ok, hr], hu⟩
    have it : op ≠ .shl ∧ op ≠ .shr → (if k = k' then (intOp op k a b).map V.d else none) = some z → ∃ u, (do eqGuard op t o1 o2 (.int k a) (.int k' b); binOp op t (.int k a) (.int k' b) : Sem Value).run P w = .ok u w ∧ RV Γ u z := by
      intro hs h5
      split at h5
      · rename_i hk
        subst hk
        rw [Option.map_eq_some_iff] at h5
        obtain ⟨d, hd, rfl⟩ := h5
        obtain ⟨u, hr, hu⟩ := int_sound (P := P) (Γ := Γ) hd hs t w
        exact ⟨u, by simp only [Sem.run_bind, hg, Result.andThen_ok, hr], hu⟩
      · cases h5
    split at h
    · rw [Option.map_eq_some_iff] at h
      obtain ⟨d, hd, rfl⟩ := h
      exact sh d hd
    · rw [Option.map_eq_some_iff] at h
      obtain ⟨d, hd, rfl⟩ := h
      exact sh d hd
    · rename_i h1 h2
      exact it ⟨h1, h2⟩ h
  · rw [Option.map_eq_some_iff] at h
    obtain ⟨d, hd, rfl⟩ := h
    cases hx with
    | str s1 _ l1 z1 =>
      cases hy with
      | str s2 _ l2 z2 =>
        obtain ⟨u, hr, hu⟩ := str_sound (P := P) (Γ := Γ) l1 l2 hd t w
        exact ⟨u, by simp only [Sem.run_bind, guard_plain (P := P) op t o1 o2 (.string s1) (.string s2) (by simp) (by simp) w, Result.andThen_ok, hr], hu⟩
  · rename_i cx cy _ _
    rw [Option.map_eq_some_iff] at h
    obtain ⟨d, hd, rfl⟩ := h
    unfold eqOp at hd
    split at hd
    · rw [Option.map_eq_some_iff] at hd
      obtain ⟨q, hq, rfl⟩ := hd
      obtain ⟨hg, he, hne⟩ := eqB_sound hx hy hq w o1 o2 .eql
      have he' : (Op.equal t v v').run P w = .ok q w := he 9999 (by omega)
      refine ⟨.bool q, ?_, RD.bool _⟩
      simp only [Sem.run_bind, hg, Result.andThen_ok]
      have : binOp .eql t v v' = (do pure (.bool (← Op.equal t v v'))) := by
        rcases hne with ⟨_, _, rfl, rfl⟩ | ⟨_, _, rfl, rfl⟩ | ⟨_, _, rfl, rfl⟩ <;> rfl
      rw [this]
      simp [he']
    · rw [Option.map_eq_some_iff] at hd
      obtain ⟨q, hq, rfl⟩ := hd
      obtain ⟨hg, he, hne⟩ := eqB_sound hx hy hq w o1 o2 .neq
      have he' : (Op.equal t v v').run P w = .ok q w := he 9999 (by omega)
      refine ⟨.bool !q, ?_, RD.bool _⟩
      simp only [Sem.run_bind, hg, Result.andThen_ok]
      have : binOp .neq t v v' = (do pure (.bool (!(← Op.equal t v v')))) := by
        rcases hne with ⟨_, _, rfl, rfl⟩ | ⟨_, _, rfl, rfl⟩ | ⟨_, _, rfl, rfl⟩ <;> rfl
      rw [this]
      simp [he']
    · cases hd
  · cases h

theorem un_sound {v : Value} {x z : V} {op : UnOp} (hx : RV Γ v x) (h : unA op x = some z) (w : World) : ∃ u, (Op.unary op v).run P w = .ok u w ∧ RV Γ u z := by
  unfold unA at h
  split at h
  · cases h; cases hx; exact ⟨_, rfl, RD.int _ _⟩
  · cases h; cases hx; exact ⟨_, rfl, RD.bool _⟩
  · cases h

theorem bytesOf_spec : ∀ {xs : List (List D)} {l : List UInt8}, bytesOf xs = some l → xs = l.map byteD
  | [], l, h => by simp only [bytesOf, Option.some.injEq] at h; subst h; rfl
  | x :: r, l, h => by
    simp only [bytesOf, Option.bind_eq_some_iff, Option.map_eq_some_iff] at h
    obtain ⟨b, hb, m, hm, rfl⟩ := h
    rw [bytesOf_spec hm]
    unfold byteOf at hb
    split at hb
    · split at hb
      · rename_i n hn
        cases hb
        simp only [List.map_cons, byteD, List.cons.injEq, and_true]
        have : ((UInt8.ofNat n.toNat).toNat : Int) = n := by
          rw [UInt8.toNat_ofNat']
          omega
        rw [this]
      · cases hb
    · cases hb

theorem chunk_one {α β : Type} (f : β → α) : ∀ l : List β, chunk 1 l.length (l.map f) = l.map fun b => [f b]
  | [] => rfl
  | b :: r => by simp [chunk, chunk_one f r]
theorem conv_sound {B : Nat} {s : St} {a : Act} (hI : Inv Γ B s a) {v : Value} {x z : V} {src dst : TypeId} (hx : RV Γ v x) (h : convA P s src dst x = some z) :
    ∃ Γ' u, (convert src dst v).run P Γ.w = .ok u Γ'.w ∧ RV Γ' u z ∧ Grow Γ Γ' := by
  unfold convA at h
  split at h
  · rename_i us k k' n hs hd
    cases h
    cases hx
    refine ⟨Γ, .int k (k.wrap n), ?_, RD.int _ _, Grow.refl _⟩
    simp only [convert, Sem.run_bind, run_underlying hs, run_underlying hd, Result.andThen_ok]
    rfl
  · rename_i us l hs hd
    cases h
    cases hx with
    | str s _ hl hz =>
      refine ⟨Γ, .string s, ?_, RD.str s _ hl hz, Grow.refl _⟩
      simp only [convert, Sem.run_bind, run_underlying hs, run_underlying hd, Result.andThen_ok]
      rfl
  · rename_i us e l hs hd
    split at h
    · rename_i he
      split at h
      · rename_i hlen
        cases h
        cases hx with
        | str s _ hl hz =>
          have hsz := str_size hl
          have hg := grow_fresh (Γ := Γ) (w' := Lib.bytesWorld Γ.w e s) rfl rfl rfl (Lib.bytesWorld_size _ _ _) (fun g hg => Lib.bytesWorld_at_old _ _ _ g hg) (Nat.le_succ Γ.w.drawn)
          have hch : (l.map fun b => byteD b) = chunk 1 l.length (l.map fun b => D.int .u8 (b.toNat : Int)) := (chunk_one _ l).symm
          refine ⟨Γ.fresh (Lib.bytesWorld Γ.w e s), _, Lib.run_convert_string_bytes Γ.w src dst e s hs hd he, ?_, hg⟩
          show RD _ _ _ (D.sl (l.map byteD))
          rw [show l.map byteD = _ from hch, hsz]
          refine slice_fresh hI hg (Lib.bytesWorld_at_new _ _ _) ?_ (by simp) (grownCap_ge _ _ _ _) (grownCap_le_maxLen _ _ _ _ hlen)
          refine ⟨?_, fun i u d hu hd' => ?_⟩
          · simp only [Lib.bytesCells, Array.toList_append, Array.toList_map, List.length_take, List.length_append, List.length_map, hl]
            omega
          · have hi : i < l.length := by have := (List.getElem?_eq_some_iff.1 hd').1; simpa using this
            rw [List.getElem?_take_of_lt (by simpa using hi)] at hu
            simp only [Lib.bytesCells, Array.toList_append, Array.toList_map, hl] at hu
            rw [List.getElem?_append_left (by simpa using hi), List.getElem?_map, List.getElem?_eq_getElem hi] at hu
            rw [List.getElem?_map, List.getElem?_eq_getElem hi] at hd'
            simp only [Option.map_some, Option.some.injEq] at hu hd'
            subst hu
            subst hd'
            exact .int _ _
      · cases h
    · cases h
  · rename_i e _ y hs hd
    split at h
    · rename_i he
      split at h
      · rename_i k off n
        simp only [Option.bind_eq_some_iff, Option.map_eq_some_iff] at h
        obtain ⟨cs, hcs, ws, hws, ds, hds, l, hl, rfl⟩ := h
        obtain ⟨ad, c, rfl, had, hn6, hbl⟩ := hx
        obtain ⟨vs, ty, h1, _, h3, _, h5⟩ := hI.boxes k cs hcs
        obtain ⟨hle, hwe, hwl⟩ := cut_spec hws
        have hdl := closes_sound (Γ := Γ) ((h3.drop off).take n) (hwe ▸ hds)
        have hxl := bytesOf_spec hl
        have hdsl : ds = l.map fun b => D.int .u8 (b.toNat : Int) := by
          have : (ds.map fun d => [d]) = (l.map fun b => D.int .u8 (b.toNat : Int)).map fun d => [d] := by rw [hxl]; simp [byteD]
          exact List.map_inj_right (fun _ _ h => by simpa using h) |>.1 this
        have hvl := h3.1
        simp only [Array.length_toList] at hvl
        have hlen : l.length = n := by
          have a1 := hdl.1
          rw [hdsl] at a1
          simp at a1
          omega
        refine ⟨Γ, .string ⟨l.toArray⟩, ?_, RD.str _ _ (by simp) ?_, Grow.refl _⟩
        · subst hlen
          refine run_convert_bytes_back Γ.w src dst e ad c l hs he hd (fun j hj => ?_)
          rw [had (by omega), add_plain, cell_of_heap h1]
          have hj2 : off + j < vs.size := by omega
          have hg : ((vs.toList.drop off).take l.length)[j]? = some vs[off + j] := by
            rw [List.getElem?_take_of_lt hj, List.getElem?_drop, Array.getElem?_toList, Array.getElem?_eq_getElem hj2]
          have hd' : ds[j]? = some (.int .u8 (l[j].toNat : Int)) := by rw [hdsl, List.getElem?_map, List.getElem?_eq_getElem hj]; rfl
          have hr := hdl.2 j _ _ hg hd'
          rw [Array.getElem?_eq_getElem hj2]
          generalize vs[off + j] = u at hr
          cases hr
          rfl
        · show l.toArray.size ≤ maxLen
          simp only [List.size_toArray, maxLen]
          omega
      · rename_i x' hnb
        simp only [Option.bind_eq_some_iff, Option.map_eq_some_iff] at h
        obtain ⟨xs, hxs, l, hl, rfl⟩ := h
        have hxl := bytesOf_spec hl
        have hdd := elems_sound hx hxs
        cases hdd with
        | sl A m c sz _ vs hm hc hmx hA hszz hcell hdd =>
          have hlen : l.length = m := by rw [← hm, hxl]; simp
          refine ⟨Γ, .string ⟨l.toArray⟩, ?_, RD.str _ _ (by simp) ?_, Grow.refl _⟩
          · cases A with
            | none =>
              have := hA rfl
              have hl0 : l = [] := List.eq_nil_of_length_eq_zero (by omega)
              subst hl0
              simp only [convert, Sem.run_bind, run_underlying hs, run_underlying hd, Result.andThen_ok, run_underlying he]
              rfl
            | some ad =>
              subst hlen
              refine run_convert_bytes_back Γ.w src dst e ad c l hs he hd (fun j hj => ?_)
              have hx : xs[j]? = some (byteD l[j]) := by rw [hxl, List.getElem?_map, List.getElem?_eq_getElem hj]; rfl
              have hs1 := hszz j _ hx
              simp only [byteD, List.length_singleton] at hs1
              subst hs1
              have h1 := (hcell ad rfl j 0 hj (by omega)).2
              have h2 := hdd j 0 _ (.int .u8 (l[j].toNat : Int)) hx (by simp [byteD])
              simp only [Nat.mul_one, Nat.add_zero] at h1
              rw [h1]
              generalize vs j 0 = u at h2
              cases h2
              rfl
          · show l.toArray.size ≤ maxLen
            simp only [List.size_toArray]
            omega
    · cases h
  · cases h

theorem extract_sound {v : Value} {x z : V} {j : Nat} (hx : RV Γ v x) (h : extractA x j = some z) : ∃ u, (Instr.extract v j).run P Γ.w = .ok u Γ.w ∧ RV Γ u z := by
  unfold extractA at h
  split at h
  · rw [Option.map_eq_some_iff] at h
    obtain ⟨c, hc, rfl⟩ := h
    obtain ⟨vs, rfl, ha⟩ := hx
    obtain ⟨u, hu, hr⟩ := ha.get hc
    rw [Array.getElem?_toList] at hu
    exact ⟨u, by simp [Instr.extract, hu], hr⟩
  · cases h

theorem evs_sound {B : Nat} {s : St} {a : Act} (hI : Inv Γ B s a) : ∀ {l : List Operand} {xs : List V}, s.evs l = some xs → All2 (RV Γ) (l.map a.eval) xs
  | [], xs, h => by simp only [St.evs, Option.some.injEq] at h; subst h; exact All2.nil
  | x :: r, xs, h => by
    simp only [St.evs, Option.bind_eq_some_iff, Option.map_eq_some_iff] at h
    obtain ⟨v, hv, b, hb, rfl⟩ := h
    exact All2.cons (ev_sound hI hv) (evs_sound hI hb)
theorem caps_sound : ∀ {vs : List Value} {xs : List V} {cs : List Nat}, All2 (RV Γ) vs xs → fnCaps xs = some cs → vs = cs.map (fun o => ptr (Γ.glo o) 0) ∧ ∀ o ∈ cs, o < Γ.ng
  | vs, [], cs, ha, h => by simp only [fnCaps, Option.some.injEq] at h; subst h; rw [ha.nil_iff]; exact ⟨rfl, by simp⟩
  | vs, x :: r, cs, ha, h => by
    obtain ⟨v, vs', rfl, h1, h2⟩ := ha.uncons
    unfold fnCaps at h
    split at h
    · rename_i heq; cases heq
    · rename_i o _ heq
      cases heq
      rw [Option.map_eq_some_iff] at h
      obtain ⟨b, hb, rfl⟩ := h
      obtain ⟨h3, h4⟩ := caps_sound h2 hb
      obtain ⟨h5, h6⟩ := h1
      exact ⟨by rw [h3, h5]; rfl, by simpa using ⟨h6, h4⟩⟩
    · cases h

theorem calm_sound {B : Nat} {s : St} {a : Act} (hI : Inv Γ B s a) {o : Oper} {x : V} (h : calmA P s o.op = some x) :
    ∃ Γ' u, (execOp a.eval o).run P Γ.w = .ok (.value u) Γ'.w ∧ RV Γ' u x ∧ Grow Γ Γ' := by
  have same : ∀ {m : Sem Value}, (execOp a.eval o = do pure (.value (← m))) → (∃ u, m.run P Γ.w = .ok u Γ.w ∧ RV Γ u x) → ∃ Γ' u, (execOp a.eval o).run P Γ.w = .ok (.value u) Γ'.w ∧ RV Γ' u x ∧ Grow Γ Γ' := by
    rintro m hm ⟨u, hr, hu⟩
    exact ⟨Γ, u, by rw [hm]; simp [hr], hu, Grow.refl _⟩
  obtain ⟨dst, op, type, pos, after, guard⟩ := o
  simp only at h
  unfold calmA at h
  split at h
  · exact ⟨Γ, _, rfl, ev_sound hI h, Grow.refl _⟩
  · exact ⟨Γ, _, rfl, ev_sound hI h, Grow.refl _⟩
  · rename_i c y z
    rw [Option.bind_eq_some_iff] at h
    obtain ⟨v, hv, h⟩ := h
    split at h
    · rename_i q
      have hq := ev_sound hI hv
      generalize hc : a.eval c = u at hq
      cases hq
      refine ⟨Γ, if q then a.eval y else a.eval z, ?_, ?_, Grow.refl _⟩
      · simp [execOp, hc, asBool]
      · cases q
        · exact ev_sound hI h
        · exact ev_sound hI h
    · cases h
  · exact same rfl (build_sound hI h)
  · obtain ⟨Γ', u, hr, hu, hg⟩ := buildSlice_sound hI h
    exact ⟨Γ', u, by simp only [execOp, Sem.run_bind, hr, Result.andThen_ok, Sem.run_pure], hu, hg⟩
  · rename_i t ad
    rw [Option.bind_eq_some_iff] at h
    obtain ⟨v, hv, h⟩ := h
    rw [Option.map_eq_some_iff] at h
    obtain ⟨c, hc, rfl⟩ := h
    obtain ⟨p, hp, u, hr, hu⟩ := loadC_sound hI (ev_sound hI hv) hc
    exact same rfl ⟨u, by rw [Instr.loadAt, hp]; simp [Instr.sureAddr, hr], hu⟩
  · rename_i y
    rw [Option.bind_eq_some_iff] at h
    obtain ⟨v, hv, h⟩ := h
    have hy := ev_sound hI hv
    unfold nilCheckA at h
    split at h
    · cases h; exact ⟨Γ, a.eval y, by simp only [execOp]; rw [hy.1]; rfl, hy, Grow.refl _⟩
    · cases h; exact ⟨Γ, a.eval y, by simp only [execOp]; rw [hy.1]; rfl, hy, Grow.refl _⟩
    · cases h
      refine ⟨Γ, a.eval y, ?_, hy, Grow.refl _⟩
      obtain ⟨ad, he, _⟩ := hy
      simp only [execOp]; rw [he]; rfl
    · cases h
  · rename_i op t y z t'
    simp only [Option.bind_eq_some_iff] at h
    obtain ⟨v, hv, v', hv', h⟩ := h
    exact same rfl (bin_sound (ev_sound hI hv) (ev_sound hI hv') h Γ.w y z)
  · simp only [Option.bind_eq_some_iff] at h
    obtain ⟨v, hv, h⟩ := h
    exact same rfl (un_sound (ev_sound hI hv) h Γ.w)
  · simp only [Option.bind_eq_some_iff] at h
    obtain ⟨v, hv, h⟩ := h
    obtain ⟨Γ', u, hr, hu, hg⟩ := conv_sound hI (ev_sound hI hv) h
    exact ⟨Γ', u, by simp only [execOp, Sem.run_bind, hr, Result.andThen_ok, Sem.run_pure], hu, hg⟩
  · simp only [Option.bind_eq_some_iff] at h
    obtain ⟨v, hv, h⟩ := h
    exact same rfl (slice_sound hI (ev_sound hI hv) h)
  · simp only [Option.bind_eq_some_iff] at h
    obtain ⟨v, hv, h⟩ := h
    exact same rfl (empty_sound hI (ev_sound hI hv) h)
  · simp only [Option.bind_eq_some_iff] at h
    obtain ⟨v, hv, h⟩ := h
    exact same rfl (fieldAddr_sound (ev_sound hI hv) h)
  · simp only [Option.bind_eq_some_iff] at h
    obtain ⟨v, hv, h⟩ := h
    exact same rfl (field_sound (ev_sound hI hv) h)
  · simp only [Option.bind_eq_some_iff] at h
    obtain ⟨v, hv, v', hv', h⟩ := h
    exact same rfl (indexAddr_sound (ev_sound hI hv) (ev_sound hI hv') h)
  · simp only [Option.bind_eq_some_iff] at h
    obtain ⟨v, hv, v', hv', h⟩ := h
    exact same rfl (index_sound (ev_sound hI hv) (ev_sound hI hv') h)
  · simp only [Option.bind_eq_some_iff] at h
    obtain ⟨v, hv, h⟩ := h
    exact same rfl (extract_sound (ev_sound hI hv) h)
  · rename_i f first caps
    split at h
    · rename_i h0
      simp only [Option.bind_eq_some_iff, Option.map_eq_some_iff] at h
      obtain ⟨vs, hvs, cs, hcs, rfl⟩ := h
      obtain ⟨h1, h2⟩ := caps_sound (evs_sound hI hvs) hcs
      have hf0 : first = #[] := Array.eq_empty_of_size_eq_zero h0
      refine same rfl ⟨_, rfl, ?_, h2⟩
      subst hf0
      have : caps.map a.eval = (cs.map fun o => ptr (Γ.glo o) 0).toArray := Array.toList_inj.1 (by simpa using h1)
      rw [this, Array.map_empty]
    · cases h
  · rename_i args ts
    split at h
    · rename_i y t h1 h2
      simp only [Option.bind_eq_some_iff] at h
      obtain ⟨v, hv, h⟩ := h
      obtain ⟨u, hr, hu⟩ := len_sound (P := P) (ty := type) (ev_sound hI hv) h
      have e1 : args = #[y] := by rw [← Array.toArray_toList (xs := args), h1]
      have e2 : ts = #[t] := by rw [← Array.toArray_toList (xs := ts), h2]
      subst e1
      subst e2
      refine ⟨Γ, u, ?_, hu, Grow.refl _⟩
      simp [execOp, resolve, invoke, builtin, hr]
    · cases h
  · rename_i args ts
    split at h
    · rename_i y z h1
      simp only [Option.bind_eq_some_iff] at h
      obtain ⟨v, hv, v', hv', h⟩ := h
      obtain ⟨u, hr, hu⟩ := less_sound (P := P) (ev_sound hI hv) (ev_sound hI hv') h Γ.w type ts
      have e1 : args = #[y, z] := by rw [← Array.toArray_toList (xs := args), h1]
      subst e1
      refine ⟨Γ, u, ?_, hu, Grow.refl _⟩
      simp only [if_true] at hr
      simp [execOp, resolve, invoke, builtin, hr]
    · cases h
  · rename_i args ts
    split at h
    · rename_i y z h1
      simp only [Option.bind_eq_some_iff] at h
      obtain ⟨v, hv, v', hv', h⟩ := h
      obtain ⟨u, hr, hu⟩ := less_sound (P := P) (ev_sound hI hv) (ev_sound hI hv') h Γ.w type ts
      have e1 : args = #[y, z] := by rw [← Array.toArray_toList (xs := args), h1]
      subst e1
      refine ⟨Γ, u, ?_, hu, Grow.refl _⟩
      simp only [Bool.false_eq_true, if_false] at hr
      simp [execOp, resolve, invoke, builtin, hr]
    · cases h
  · cases h
end
end Go.Proofs.YtckonoejmjblfaaGreatDoor.Ev

/- Operations that turn something: variables made, stores, appends, calls. -/
set_option linter.unusedVariables false
set_option linter.unusedSimpArgs false
namespace Go.Proofs.YtckonoejmjblfaaGreatDoor.Ev
open Go Go.RowKit

/-- What a call whose blocks begin at B leaves as it was. -/
structure Step (ql : Prop) (B : Nat) (Γ Γ' : Ctx) : Prop where
  os : Γ'.w.os = Γ.w.os
  tape : Γ'.w.tape = Γ.w.tape
  output : Γ'.w.output = Γ.w.output
  size : Γ.w.heap.size ≤ Γ'.w.heap.size
  old : ∀ g, g < B → (∀ o, Γ.own g ≠ some (.glo o)) → Γ'.w.heap[g]? = Γ.w.heap[g]?
  F : ∀ a, Γ.F a → Γ'.F a ∧ Γ'.w.cell? a = Γ.w.cell? a
  Fnew : ∀ a, Γ'.F a → Γ.F a ∨ B ≤ a.block ∨ ∃ o, Γ.own a.block = some (.glo o)
  ng : Γ.ng ≤ Γ'.ng
  glb : ∀ o, o < Γ.ng → Γ'.glb o = Γ.glb o
  own : ∀ g, g < B → (∀ o, Γ.own g ≠ some (.glo o)) → Γ'.own g = Γ.own g
  drawn : ql → Γ.w.drawn ≤ Γ'.w.drawn
theorem Step.refl {ql : Prop} (B : Nat) (Γ : Ctx) : Step ql B Γ Γ := ⟨rfl, rfl, rfl, Nat.le_refl _, fun _ _ _ => rfl, fun _ h => ⟨h, rfl⟩, fun _ h => .inl h, Nat.le_refl _, fun _ _ => rfl, fun _ _ _ => rfl, fun _ => Nat.le_refl _⟩
theorem Step.trans {ql : Prop} {B : Nat} {Γ Γ' Γ'' : Ctx} (h : Step ql B Γ Γ') (k : Step ql B Γ' Γ'') : Step ql B Γ Γ'' := by
  refine ⟨k.os.trans h.os, k.tape.trans h.tape, k.output.trans h.output, Nat.le_trans h.size k.size, fun g hg ho => ?_, fun a ha => ?_, fun a ha => ?_, Nat.le_trans h.ng k.ng, fun o ho => ?_, fun g hg ho => (k.own g hg (fun o => by rw [h.own g hg ho]; exact ho o)).trans (h.own g hg ho), fun hq => Nat.le_trans (h.drawn hq) (k.drawn hq)⟩
  · exact (k.old g hg (fun o => by rw [h.own g hg ho]; exact ho o)).trans (h.old g hg ho)
  · obtain ⟨h1, h2⟩ := h.F a ha
    obtain ⟨h3, h4⟩ := k.F a h1
    exact ⟨h3, h4.trans h2⟩
  · rcases k.Fnew a ha with ha | ha | ⟨o, ha⟩
    · exact h.Fnew a ha
    · exact .inr (.inl ha)
    · by_cases hb : B ≤ a.block
      · exact .inr (.inl hb)
      · by_cases hno : ∀ o, Γ.own a.block ≠ some (.glo o)
        · rw [h.own _ (by omega) hno] at ha
          exact absurd ha (hno o)
        · obtain ⟨o', h1⟩ := Classical.not_forall.1 hno
          exact .inr (.inr ⟨o', Classical.not_not.1 h1⟩)
  · exact (k.glb o (Nat.lt_of_lt_of_le ho h.ng)).trans (h.glb o ho)
theorem Inv.step_of_grow {ql : Prop} {Γ Γ' : Ctx} {B : Nat} {s : St} {a : Act} (h : Inv Γ B s a) (g : Grow Γ Γ') : Step ql B Γ Γ' :=
  ⟨g.os, g.tape, g.output, g.size, fun b hb _ => g.block b (Nat.lt_of_lt_of_le hb h.base), (h.up_of_grow g).F, fun a ha => by
    rcases g.Fnew a ha with ha | ha
    · exact .inl ha
    · exact .inr (.inl (Nat.le_trans h.base ha.1)), by rw [g.ng]; exact Nat.le_refl _, fun _ _ => by rw [g.glb], fun _ _ _ => by rw [g.own], fun _ => g.drawn⟩

theorem Inv.step_of_grow0 {Γ Γ' : Ctx} {B : Nat} {s : St} {a : Act} (h : Inv Γ B s a) (g : Grow0 Γ Γ') : Step False B Γ Γ' :=
  ⟨g.os, g.tape, g.output, g.size, fun b hb _ => g.block b (Nat.lt_of_lt_of_le hb h.base), (h.up_of_grow0 g).F, fun a ha => by
    rcases g.Fnew a ha with ha | ha
    · exact .inl ha
    · exact .inr (.inl (Nat.le_trans h.base ha.1)), by rw [g.ng]; exact Nat.le_refl _, fun _ _ => by rw [g.glb], fun _ _ _ => by rw [g.own], fun h => h.elim⟩

theorem look_upd {α : Type} (l : List (Nat × α)) (i j : Nat) (y : α) : look (upd l i y) j = if i = j then some y else look l j := by
  induction l with
  | nil => simp only [upd, look]
  | cons p r ih =>
    obtain ⟨k, x⟩ := p
    simp only [upd]
    by_cases hk : k = i
    · subst hk
      simp only [if_true, look]
      by_cases hj : k = j <;> simp [hj]
    · simp only [if_neg hk, look, ih]
      by_cases hj : k = j
      · subst hj; simp [Ne.symm hk]
      · simp [hj]

theorem alloc_new (w : World) (o : Obj) : (w.alloc o).heap[w.heap.size]? = some o := by show (w.heap.push o)[w.heap.size]? = _; simp
section
variable {ql : Prop} {P : Program} {Γ : Ctx}

theorem Inv.put {B : Nat} {s : St} {a : Act} (h : Inv Γ B s a) (dst : Option Nat) {v : Value} {x : V} (hv : RV Γ v x) : Inv Γ B (s.put dst x) (a.put dst v) := by
  cases dst with
  | none => exact h
  | some t =>
    refine ⟨h.defers, by simp [Act.put, St.put, h.size], fun i u y hu hy => ?_, h.len, h.bl, h.ng, h.boxes, h.toks, h.globs, h.fix, h.ownlt, h.base, h.its⟩
    simp only [Act.put, St.put] at hu hy
    by_cases hit : t = i
    · subst hit
      have ht : t < s.sl.length := by have := (List.getElem?_eq_some_iff.1 hy).1; simpa using this
      rw [List.getElem?_set_self ht, Option.some.injEq] at hy
      rw [Array.getElem?_setIfInBounds_self_of_lt (by rw [h.size]; exact ht), Option.some.injEq] at hu
      subst hu
      subst hy
      exact hv
    · rw [List.getElem?_set_ne hit] at hy
      rw [Array.getElem?_setIfInBounds_ne hit] at hu
      exact h.slots i u y hu hy

/-- A variable of the call's own. -/
def Ctx.newBox (Γ : Ctx) (d : Nat) (o : Obj) : Ctx :=
  { Γ with w := Γ.w.alloc o, box := fun k => if k = d then Γ.w.heap.size else Γ.box k, bl := fun k => k = d ∨ Γ.bl k, own := fun g => if g = Γ.w.heap.size then some (.box d) else Γ.own g }
theorem Inv.newBox {B : Nat} {s : St} {a : Act} (h : Inv Γ B s a) (d : Nat) (hd : look s.bx d = none) (hd' : look s.it d = none) (vs : Array Value) (ty : TypeId) (ws : List W) (hv : All2 (RW Γ) vs.toList ws) (h1 : ∀ u ∈ vs.toList, u.oneCell' = true) :
    Step ql B Γ (Γ.newBox d (.cells vs ty (0, 0))) ∧ Inv (Γ.newBox d (.cells vs ty (0, 0))) B { s with bx := upd s.bx d ws } a ∧ RV (Γ.newBox d (.cells vs ty (0, 0))) (ptr Γ.w.heap.size 0) (.c (.w (.box d 0))) := by
  have hnb : ∀ k, Γ.bl k → k ≠ d := fun k hk e => by rw [h.bl, e, hd, hd'] at hk; simp at hk
  have hold : ∀ g, g < Γ.w.heap.size → (Γ.w.alloc (.cells vs ty (0, 0))).heap[g]? = Γ.w.heap[g]? := fun g hg => Below.heap_alloc _ _ g hg
  have hsz : (Γ.w.alloc (.cells vs ty (0, 0))).heap.size = Γ.w.heap.size + 1 := by show (Γ.w.heap.push _).size = _; simp
  have hF : ∀ a, Γ.F a → Γ.F a ∧ (Γ.w.alloc (.cells vs ty (0, 0))).cell? a = Γ.w.cell? a := fun a ha => ⟨ha, cell_of_block (hold _ (h.fix a ha).1)⟩
  have u : Up Γ (Γ.newBox d (.cells vs ty (0, 0))) :=
    ⟨hF, Nat.le_refl _, fun _ _ => rfl, fun k hk => ⟨.inr hk, by simp [Ctx.newBox, hnb k hk]⟩, fun k n hk => ⟨n, hk, .inl ⟨rfl, rfl⟩⟩⟩
  refine ⟨⟨rfl, rfl, rfl, by simp [Ctx.newBox], fun g hg _ => hold g (Nat.lt_of_lt_of_le hg h.base), hF, fun a ha => .inl ha, Nat.le_refl _, fun _ _ => rfl, fun g hg _ => ?_, fun _ => Nat.le_refl _⟩, ?_, ⟨by simp [Ctx.newBox, ptr], .inl rfl⟩⟩
  · have := h.base
    simp only [Ctx.newBox]
    rw [if_neg (by omega)]
  · refine ⟨h.defers.go fun D e _ => by
      have hlt := h.ownlt D (by simp [e])
      exact ⟨hold D hlt, by simp only [Ctx.newBox]; rw [if_neg (by omega)]; exact e⟩, h.size, fun i v x hv hx => (h.slots i v x hv hx).up u, h.len, fun k => ?_, h.ng, fun k cs hk => ?_, fun k t hk => ?_, fun o cs ho hne => ?_, fun a ha => ?_, fun g hg => ?_, by have := h.base; simp only [Ctx.newBox]; rw [hsz]; omega, fun k p hk => ?_⟩
    · simp only [Ctx.newBox, look_upd]
      by_cases hk : d = k
      · subst hk; simp
      · simp [hk, Ne.symm hk, h.bl]
    · simp only [look_upd] at hk
      by_cases hkd : d = k
      · subst hkd
        simp only [if_true, Option.some.injEq] at hk
        subst hk
        exact ⟨vs, ty, by simp only [Ctx.newBox, if_true]; exact alloc_new _ _, by simp only [Ctx.newBox, if_true]; exact h.base, hv.mono fun _ _ => RW.up u, by simp [Ctx.newBox], h1⟩
      · rw [if_neg hkd] at hk
        obtain ⟨us, ty', e1, e2, e3, e4, e5⟩ := h.boxes k cs hk
        have hlt := h.ownlt _ (by rw [e4]; simp)
        refine ⟨us, ty', ?_, ?_, e3.mono fun _ _ => RW.up u, ?_, e5⟩
        · simp only [Ctx.newBox, if_neg (Ne.symm hkd)]; rw [hold _ hlt]; exact e1
        · simp only [Ctx.newBox, if_neg (Ne.symm hkd)]; exact e2
        · simp only [Ctx.newBox, if_neg (Ne.symm hkd)]; rw [if_neg (by omega)]; exact e4
    · obtain ⟨b, cap, cur, e1, e2, e3, e4, e5, e6, e7, e8, e9⟩ := h.toks k t hk
      have hlt := h.ownlt _ (by rw [e7]; simp)
      exact ⟨b, cap, cur, e1, by simp only [Ctx.newBox]; rw [hold _ hlt]; exact e2, e3, e4, e5, e6, by simp only [Ctx.newBox]; rw [if_neg (by omega)]; exact e7, e8, e9⟩
    · obtain ⟨us, ty', e1, e3, e4, e5⟩ := h.globs o cs ho hne
      have hlt := h.ownlt _ (by rw [e4]; simp)
      have hlt' : (Γ.glb o).1 < Γ.w.heap.size := hlt
      exact ⟨us, ty', by simp only [Ctx.newBox, Ctx.glo]; rw [hold _ hlt]; exact e1, e3.mono fun _ _ => RW.up u, by simp only [Ctx.newBox, Ctx.glo]; rw [if_neg (by omega)]; exact e4, e5⟩
    · obtain ⟨e1, e2⟩ := h.fix a ha
      exact ⟨by simp only [Ctx.newBox]; rw [hsz]; omega, by simp only [Ctx.newBox]; rw [if_neg (by omega)]; exact e2⟩
    · simp only [Ctx.newBox] at hg ⊢
      rw [hsz]
      split at hg
      · omega
      · have := h.ownlt g hg; omega
    · have hkd : k ≠ d := by rintro rfl; rw [hd'] at hk; cases hk
      obtain ⟨e1, e2, e3, e4⟩ := h.its k p hk
      have hlt := h.ownlt _ (by rw [e3]; simp)
      refine ⟨?_, ?_, ?_, e4⟩
      · simp only [Ctx.newBox, if_neg hkd]; rw [hold _ hlt]; exact e1
      · simp only [Ctx.newBox, if_neg hkd]; exact e2
      · simp only [Ctx.newBox, if_neg hkd]; rw [if_neg (by omega)]; exact e3

/-- An iterator over a text. -/
theorem Inv.newIt {B : Nat} {s : St} {a : Act} (h : Inv Γ B s a) (d : Nat) (hd : look s.bx d = none) (hd' : look s.it d = none) (l : List UInt8) (hl : l.length ≤ maxLen) :
    Step ql B Γ (Γ.newBox d (.stringIter ⟨l.toArray⟩ 0)) ∧ Inv (Γ.newBox d (.stringIter ⟨l.toArray⟩ 0)) B { s with it := upd s.it d (l, 0) } a ∧ RV (Γ.newBox d (.stringIter ⟨l.toArray⟩ 0)) (ptr Γ.w.heap.size 0) (.c (.w (.box d 0))) := by
  have hnb : ∀ k, Γ.bl k → k ≠ d := fun k hk e => by rw [h.bl, e, hd, hd'] at hk; simp at hk
  have hold : ∀ g, g < Γ.w.heap.size → (Γ.w.alloc (.stringIter ⟨l.toArray⟩ 0)).heap[g]? = Γ.w.heap[g]? := fun g hg => Below.heap_alloc _ _ g hg
  have hsz : (Γ.w.alloc (.stringIter ⟨l.toArray⟩ 0)).heap.size = Γ.w.heap.size + 1 := by show (Γ.w.heap.push _).size = _; simp
  have hF : ∀ a, Γ.F a → Γ.F a ∧ (Γ.w.alloc (.stringIter ⟨l.toArray⟩ 0)).cell? a = Γ.w.cell? a := fun a ha => ⟨ha, cell_of_block (hold _ (h.fix a ha).1)⟩
  have u : Up Γ (Γ.newBox d (.stringIter ⟨l.toArray⟩ 0)) :=
    ⟨hF, Nat.le_refl _, fun _ _ => rfl, fun k hk => ⟨.inr hk, by simp [Ctx.newBox, hnb k hk]⟩, fun k n hk => ⟨n, hk, .inl ⟨rfl, rfl⟩⟩⟩
  refine ⟨⟨rfl, rfl, rfl, by simp [Ctx.newBox], fun g hg _ => hold g (Nat.lt_of_lt_of_le hg h.base), hF, fun a ha => .inl ha, Nat.le_refl _, fun _ _ => rfl, fun g hg _ => ?_, fun _ => Nat.le_refl _⟩, ?_, ⟨by simp [Ctx.newBox, ptr], .inl rfl⟩⟩
  · have := h.base
    simp only [Ctx.newBox]
    rw [if_neg (by omega)]
  · refine ⟨h.defers.go fun D e _ => by
      have hlt := h.ownlt D (by simp [e])
      exact ⟨hold D hlt, by simp only [Ctx.newBox]; rw [if_neg (by omega)]; exact e⟩, h.size, fun i v x hv hx => (h.slots i v x hv hx).up u, h.len, fun k => ?_, h.ng, fun k cs hk => ?_, fun k t hk => ?_, fun o cs ho hne => ?_, fun a ha => ?_, fun g hg => ?_, by have := h.base; simp only [Ctx.newBox]; rw [hsz]; omega, fun k p hk => ?_⟩
    · simp only [Ctx.newBox, look_upd]
      by_cases hk : d = k
      · subst hk; simp
      · simp [hk, Ne.symm hk, h.bl]
    · have hkd : k ≠ d := by rintro rfl; rw [hd] at hk; cases hk
      obtain ⟨us, ty', e1, e2, e3, e4, e5⟩ := h.boxes k cs hk
      have hlt := h.ownlt _ (by rw [e4]; simp)
      refine ⟨us, ty', ?_, ?_, e3.mono fun _ _ => RW.up u, ?_, e5⟩
      · simp only [Ctx.newBox, if_neg hkd]; rw [hold _ hlt]; exact e1
      · simp only [Ctx.newBox, if_neg hkd]; exact e2
      · simp only [Ctx.newBox, if_neg hkd]; rw [if_neg (by omega)]; exact e4
    · obtain ⟨b, cap, cur, e1, e2, e3, e4, e5, e6, e7, e8, e9⟩ := h.toks k t hk
      have hlt := h.ownlt _ (by rw [e7]; simp)
      exact ⟨b, cap, cur, e1, by simp only [Ctx.newBox]; rw [hold _ hlt]; exact e2, e3, e4, e5, e6, by simp only [Ctx.newBox]; rw [if_neg (by omega)]; exact e7, e8, e9⟩
    · obtain ⟨us, ty', e1, e3, e4, e5⟩ := h.globs o cs ho hne
      have hlt := h.ownlt _ (by rw [e4]; simp)
      have hlt' : (Γ.glb o).1 < Γ.w.heap.size := hlt
      exact ⟨us, ty', by simp only [Ctx.newBox, Ctx.glo]; rw [hold _ hlt]; exact e1, e3.mono fun _ _ => RW.up u, by simp only [Ctx.newBox, Ctx.glo]; rw [if_neg (by omega)]; exact e4, e5⟩
    · obtain ⟨e1, e2⟩ := h.fix a ha
      exact ⟨by simp only [Ctx.newBox]; rw [hsz]; omega, by simp only [Ctx.newBox]; rw [if_neg (by omega)]; exact e2⟩
    · simp only [Ctx.newBox] at hg ⊢
      rw [hsz]
      split at hg
      · omega
      · have := h.ownlt g hg; omega
    · simp only [look_upd] at hk
      by_cases hkd : d = k
      · subst hkd
        simp only [if_true, Option.some.injEq] at hk
        subst hk
        exact ⟨by simp only [Ctx.newBox, if_true]; exact alloc_new _ _, by simp only [Ctx.newBox, if_true]; exact h.base, by simp [Ctx.newBox], hl⟩
      · rw [if_neg hkd] at hk
        obtain ⟨e1, e2, e3, e4⟩ := h.its k p hk
        have hlt := h.ownlt _ (by rw [e3]; simp)
        refine ⟨?_, ?_, ?_, e4⟩
        · simp only [Ctx.newBox, if_neg (Ne.symm hkd)]; rw [hold _ hlt]; exact e1
        · simp only [Ctx.newBox, if_neg (Ne.symm hkd)]; exact e2
        · simp only [Ctx.newBox, if_neg (Ne.symm hkd)]; rw [if_neg (by omega)]; exact e3

/-- An object that calls share. -/
def Ctx.newGlo (Γ : Ctx) (w' : World) (n : Nat) : Ctx :=
  { Γ with w := w', glb := fun k => if k = Γ.ng then (Γ.w.heap.size, n) else Γ.glb k, ng := Γ.ng + 1, own := fun g => if g = Γ.w.heap.size then some (.glo Γ.ng) else Γ.own g }
theorem Inv.newGlo {B : Nat} {s : St} {a : Act} (h : Inv Γ B s a) {w' : World} (hos : w'.os = Γ.w.os) (hta : w'.tape = Γ.w.tape) (hou : w'.output = Γ.w.output) (hsz : w'.heap.size = Γ.w.heap.size + 1) (hold : ∀ g, g < Γ.w.heap.size → w'.heap[g]? = Γ.w.heap[g]?)
    (vs : Array Value) (ty : TypeId) (hnew : w'.heap[Γ.w.heap.size]? = some (.cells vs ty (0, 0))) (ws : List W) (hv : All2 (RW Γ) (vs.toList.take ws.length) ws) (h1 : ∀ u ∈ vs.toList, u.oneCell' = true) (hfree : ∀ c ∈ ws, W.free c = true) (hdr : Γ.w.drawn ≤ w'.drawn := by exact Nat.le_refl _) :
    Step ql B Γ (Γ.newGlo w' vs.size) ∧ Inv (Γ.newGlo w' vs.size) B { s with gl := s.gl ++ [ws] } a := by
  have hF : ∀ a, Γ.F a → Γ.F a ∧ w'.cell? a = Γ.w.cell? a := fun a ha => ⟨ha, cell_of_block (hold _ (h.fix a ha).1)⟩
  have hg : ∀ o, o < Γ.ng → (Γ.newGlo w' vs.size).glb o = Γ.glb o := fun o ho => by simp only [Ctx.newGlo]; rw [if_neg (by omega)]
  have u : Up Γ (Γ.newGlo w' vs.size) :=
    ⟨hF, by simp [Ctx.newGlo], hg, fun k hk => ⟨hk, rfl⟩, fun k n hk => ⟨n, hk, .inl ⟨rfl, rfl⟩⟩⟩
  refine ⟨⟨hos, hta, hou, by simp only [Ctx.newGlo]; omega, fun g hg _ => hold g (Nat.lt_of_lt_of_le hg h.base), hF, fun a ha => .inl ha, by simp [Ctx.newGlo], hg, fun g hg _ => ?_, fun _ => hdr⟩, ?_⟩
  · have := h.base
    simp only [Ctx.newGlo]
    rw [if_neg (by omega)]
  · refine ⟨h.defers.go fun D e _ => by
      have hlt := h.ownlt D (by simp [e])
      exact ⟨hold D hlt, by simp only [Ctx.newGlo]; rw [if_neg (by omega)]; exact e⟩, h.size, fun i v x hv hx => (h.slots i v x hv hx).up u, h.len, h.bl, by simp [Ctx.newGlo, h.ng], fun k cs hk => ?_, fun k t hk => ?_, fun o cs ho hne => ?_, fun a ha => ?_, fun g hg => ?_, by have := h.base; simp only [Ctx.newGlo]; rw [hsz]; omega, fun k p hk => by
    obtain ⟨e1, e2, e3, e4⟩ := h.its k p hk
    have hlt := h.ownlt _ (by rw [e3]; simp)
    exact ⟨by simp only [Ctx.newGlo]; rw [hold _ hlt]; exact e1, e2, by simp only [Ctx.newGlo]; rw [if_neg (by omega)]; exact e3, e4⟩⟩
    · obtain ⟨us, ty', e1, e2, e3, e4, e5⟩ := h.boxes k cs hk
      have hlt := h.ownlt _ (by rw [e4]; simp)
      exact ⟨us, ty', by simp only [Ctx.newGlo]; rw [hold _ hlt]; exact e1, e2, e3.mono fun _ _ => RW.up u, by simp only [Ctx.newGlo]; rw [if_neg (by omega)]; exact e4, e5⟩
    · obtain ⟨b, cap, cur, e1, e2, e3, e4, e5, e6, e7, e8, e9⟩ := h.toks k t hk
      have hlt := h.ownlt _ (by rw [e7]; simp)
      exact ⟨b, cap, cur, e1, by simp only [Ctx.newGlo]; rw [hold _ hlt]; exact e2, e3, e4, e5, e6, by simp only [Ctx.newGlo]; rw [if_neg (by omega)]; exact e7, e8, e9⟩
    · by_cases hol : o < s.gl.length
      · rw [List.getElem?_append_left hol] at ho
        obtain ⟨us, ty', e1, e3, e4, e5, e6, e7⟩ := h.globs o cs ho hne
        have hlt := h.ownlt _ (by rw [e4]; simp)
        have hgo : (Γ.newGlo w' vs.size).glo o = Γ.glo o := by rw [Ctx.glo, hg o (by rw [h.ng]; exact hol)]
        have hgz : (Γ.newGlo w' vs.size).gsz o = Γ.gsz o := by rw [Ctx.gsz, hg o (by rw [h.ng]; exact hol)]
        exact ⟨us, ty', by rw [hgo]; simp only [Ctx.newGlo]; rw [hold _ hlt]; exact e1, e3.mono fun _ _ => RW.up u, by rw [hgo]; simp only [Ctx.newGlo]; rw [if_neg (by omega)]; exact e4, e5, e6, by rw [hgz]; exact e7⟩
      · rw [List.getElem?_append_right (by omega)] at ho
        have h0 : o - s.gl.length = 0 := by
          have := (List.getElem?_eq_some_iff.1 ho).1
          simp at this
          omega
        rw [h0] at ho
        simp only [List.getElem?_cons_zero, Option.some.injEq] at ho
        subst ho
        have hoe : o = Γ.ng := by rw [h.ng]; omega
        subst hoe
        exact ⟨vs, ty, by simp only [Ctx.glo, Ctx.newGlo, if_true]; exact hnew, hv.mono fun _ _ => RW.up u, by simp [Ctx.glo, Ctx.newGlo], h1, hfree, by simp [Ctx.gsz, Ctx.newGlo]⟩
    · obtain ⟨e1, e2⟩ := h.fix a ha
      exact ⟨by simp only [Ctx.newGlo]; rw [hsz]; omega, by simp only [Ctx.newGlo]; rw [if_neg (by omega)]; exact e2⟩
    · simp only [Ctx.newGlo] at hg ⊢
      rw [hsz]
      split at hg
      · omega
      · have := h.ownlt g hg; omega
/-- Nobody looks at an object any more. -/
theorem Inv.dead {B : Nat} {s : St} {a : Act} (h : Inv Γ B s a) (o : Nat) : Inv Γ B { s with gl := s.gl.set o [] } a := by
  refine ⟨h.defers, h.size, h.slots, h.len, h.bl, by simp [h.ng], h.boxes, h.toks, fun j cs hj hne => ?_, h.fix, h.ownlt, h.base, h.its⟩
  by_cases hjo : o = j
  · subst hjo
    rw [List.getElem?_set_self (by have := (List.getElem?_eq_some_iff.1 hj).1; simpa using this)] at hj
    cases hj
    exact absurd rfl hne
  · rw [List.getElem?_set_ne hjo] at hj
    exact h.globs j cs hj hne

theorem expo_free {x y : W} (h : W.expo x = some y) : y.free = true := by
  unfold W.expo at h
  split at h <;> first | (cases h; rfl) | cases h
theorem expos_free : ∀ {xs ys : List W}, expos xs = some ys → ∀ c ∈ ys, W.free c = true
  | [], ys, h => by simp only [expos, Option.some.injEq] at h; subst h; simp
  | x :: r, ys, h => by
    simp only [expos, Option.bind_eq_some_iff, Option.map_eq_some_iff] at h
    obtain ⟨a, ha, b, hb, rfl⟩ := h
    simpa using ⟨expo_free ha, expos_free hb⟩
theorem expo_known {x y : W} (h : W.expo x = some y) : y.known = true := by
  unfold W.expo at h
  split at h <;> first | (cases h; rfl) | cases h
theorem expo_sound {v : Value} {x y : W} (h : RW Γ v x) (hx : W.expo x = some y) : RW Γ v y := by
  unfold W.expo at hx
  split at hx <;> first | (cases hx; exact h) | (cases hx; exact h.1) | (cases hx; exact h.1.1) | cases hx
theorem expos_sound : ∀ {vs : List Value} {xs ys : List W}, All2 (RW Γ) vs xs → expos xs = some ys → All2 (RW Γ) vs ys
  | vs, [], ys, h, hx => by simp only [expos, Option.some.injEq] at hx; subst hx; rw [h.nil_iff]; exact All2.nil
  | vs, x :: r, ys, h, hx => by
    simp only [expos, Option.bind_eq_some_iff, Option.map_eq_some_iff] at hx
    obtain ⟨a, ha, b, hb, rfl⟩ := hx
    obtain ⟨v, vs', rfl, h1, h2⟩ := h.uncons
    exact All2.cons (expo_sound h1 ha) (expos_sound h2 hb)
theorem lodge_free {x y : W} (h : W.lodge x = some y) : y.free = true := by
  unfold W.lodge at h
  split at h
  · cases h; rfl
  · exact expo_free h
theorem lodges_free : ∀ {xs ys : List W}, lodges xs = some ys → ∀ c ∈ ys, W.free c = true
  | [], ys, h => by simp only [lodges, Option.some.injEq] at h; subst h; simp
  | x :: r, ys, h => by
    simp only [lodges, Option.bind_eq_some_iff, Option.map_eq_some_iff] at h
    obtain ⟨a, ha, b, hb, rfl⟩ := h
    simpa using ⟨lodge_free ha, lodges_free hb⟩
theorem lodge_sound {v : Value} {x y : W} (h : RW Γ v x) (hx : W.lodge x = some y) : RW Γ v y := by
  unfold W.lodge at hx
  split at hx
  · cases hx; exact h
  · exact expo_sound h hx
theorem lodges_sound : ∀ {vs : List Value} {xs ys : List W}, All2 (RW Γ) vs xs → lodges xs = some ys → All2 (RW Γ) vs ys
  | vs, [], ys, h, hx => by simp only [lodges, Option.some.injEq] at hx; subst hx; rw [h.nil_iff]; exact All2.nil
  | vs, x :: r, ys, h, hx => by
    simp only [lodges, Option.bind_eq_some_iff, Option.map_eq_some_iff] at hx
    obtain ⟨a, ha, b, hb, rfl⟩ := hx
    obtain ⟨v, vs', rfl, h1, h2⟩ := h.uncons
    exact All2.cons (lodge_sound h1 ha) (lodges_sound h2 hb)
end
end Go.Proofs.YtckonoejmjblfaaGreatDoor.Ev
