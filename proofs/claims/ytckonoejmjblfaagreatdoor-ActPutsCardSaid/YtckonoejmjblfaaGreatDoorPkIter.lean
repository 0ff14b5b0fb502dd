/- What iterators hand to yield. -/
import Derived.Test.YtckonoejmjblfaaGreatDoorPkEvOR
set_option linter.unusedVariables false
set_option linter.unusedSimpArgs false
namespace Go.Proofs.YtckonoejmjblfaaGreatDoor.Ev
open Go Go.RowKit

section
variable {P : Program} {Γ : Ctx}
/-- It makes nothing. -/
def purer : Op → Bool
  | .move _ | .assign _ | .load .. | .binOp .. | .unOp .. | .indexAddr .. | .index .. => true
  | .call { callee := .builtin .len, .. } => true
  | _ => false
theorem calm_pure {B : Nat} {s : St} {a : Act} (hI : Inv Γ B s a) {o : Oper} {x : V} (hp : purer o.op = true) (h : calmA P s o.op = some x) :
    ∃ u, (execOp a.eval o).run P Γ.w = .ok (.value u) Γ.w ∧ RV Γ u x := by
  have same : ∀ {m : Sem Value}, (execOp a.eval o = do pure (.value (← m))) → (∃ u, m.run P Γ.w = .ok u Γ.w ∧ RV Γ u x) → ∃ u, (execOp a.eval o).run P Γ.w = .ok (.value u) Γ.w ∧ RV Γ u x := by
    rintro m hm ⟨u, hr, hu⟩
    exact ⟨u, by rw [hm]; simp [hr], hu⟩
  obtain ⟨dst, op, type, pos, after, guard⟩ := o
  simp only at h hp
  unfold purer at hp
  split at hp
  · exact ⟨_, rfl, ev_sound hI h⟩
  · exact ⟨_, rfl, ev_sound hI h⟩
  · simp only [calmA, Option.bind_eq_some_iff, Option.map_eq_some_iff] at h
    obtain ⟨v, hv, c, hc, rfl⟩ := h
    obtain ⟨p, hp, u, hr, hu⟩ := loadC_sound hI (ev_sound hI hv) hc
    exact same rfl ⟨u, by rw [Instr.loadAt, hp]; simp [Instr.sureAddr, hr], hu⟩
  · rename_i op t y z t'
    simp only [calmA, Option.bind_eq_some_iff] at h
    obtain ⟨v, hv, v', hv', h⟩ := h
    exact same rfl (bin_sound (ev_sound hI hv) (ev_sound hI hv') h Γ.w y z)
  · simp only [calmA, Option.bind_eq_some_iff] at h
    obtain ⟨v, hv, h⟩ := h
    exact same rfl (un_sound (ev_sound hI hv) h Γ.w)
  · simp only [calmA, Option.bind_eq_some_iff] at h
    obtain ⟨v, hv, v', hv', h⟩ := h
    exact same rfl (indexAddr_sound (ev_sound hI hv) (ev_sound hI hv') h)
  · simp only [calmA, Option.bind_eq_some_iff] at h
    obtain ⟨v, hv, v', hv', h⟩ := h
    exact same rfl (index_sound (ev_sound hI hv) (ev_sound hI hv') h)
  · rename_i args ts
    simp only [calmA] at h
    split at h
    · rename_i y t h1 h2
      simp only [Option.bind_eq_some_iff] at h
      obtain ⟨v, hv, h⟩ := h
      obtain ⟨u, hr, hu⟩ := len_sound (P := P) (ty := type) (ev_sound hI hv) h
      have e1 : args = #[y] := by rw [← Array.toArray_toList (xs := args), h1]
      have e2 : ts = #[t] := by rw [← Array.toArray_toList (xs := ts), h2]
      subst e1
      subst e2
      refine ⟨u, ?_, hu⟩
      simp [execOp, resolve, invoke, builtin, hr]
    · cases h
  · cases hp
/-- Operations in a row. -/
def calmsA (P : Program) : List Oper → St → Option St
  | [], s => some s
  | o :: r, s => if purer o.op = true ∧ o.guard = none then (calmA P s o.op).bind fun v => calmsA P r (s.put o.dst v) else none
theorem calms_sound {r : Option Nat} {n B : Nat} {ops : Array Oper} {Q : Exit → Act → World → Prop} : ∀ (l rest : List Oper) {s s' : St} {a : Act}, Inv Γ B s a → calmsA P l s = some s' →
    (∀ a', Inv Γ B s' a' → a'.defers = a.defers → (∀ i, (∀ o ∈ l, o.dst ≠ some i) → a'.tmps[i]? = a.tmps[i]?) → wpListIn (Fr r) n P ops Q rest a' Γ.w) → wpListIn (Fr r) n P ops Q (l ++ rest) a Γ.w
  | [], rest, s, s', a, hI, h, hK => by
    simp only [calmsA, Option.some.injEq] at h
    subst h
    exact hK a hI rfl fun _ _ => rfl
  | o :: l, rest, s, s', a, hI, h, hK => by
    simp only [calmsA] at h
    split at h
    · rename_i hp
      rw [Option.bind_eq_some_iff] at h
      obtain ⟨x, hx, h⟩ := h
      obtain ⟨u, hr, hu⟩ := calm_pure hI hp.1 hx
      refine wpListIn_step fun K hKK => ?_
      have hw : Region.wanted o (yielded ops a.tmps) = true := by unfold Region.wanted; rw [hp.2]
      rw [if_pos hw]
      refine wpIn_of_wp (fun c e => by rw [e] at hp; simp [purer] at hp) ?_
      unfold Oper.wp
      rw [hr]
      refine hKK _ _ (calms_sound l rest (hI.put o.dst hu) h fun a' hI' hd ht => hK a' hI' ?_ fun i hi => ?_)
      · rw [hd]; cases o.dst <;> rfl
      · rw [ht i fun o' ho' => hi o' (by simp [ho'])]
        have := hi o (by simp)
        cases hd : o.dst with
        | none => rfl
        | some d => exact Array.getElem?_setIfInBounds_ne (fun e => this (by rw [hd, e]))
    · cases h
theorem calms_list {r : Option Nat} {n B : Nat} {ops : Array Oper} {Q : Exit → Act → World → Prop} {L : List Oper} (k : Nat) {s s' : St} {a : Act} (hI : Inv Γ B s a) (h : calmsA P (L.take k) s = some s')
    (hK : ∀ a', Inv Γ B s' a' → a'.defers = a.defers → (∀ i, (∀ o ∈ L.take k, o.dst ≠ some i) → a'.tmps[i]? = a.tmps[i]?) → wpListIn (Fr r) n P ops Q (L.drop k) a' Γ.w) : wpListIn (Fr r) n P ops Q L a Γ.w := by
  rw [← List.take_append_drop k L]
  exact calms_sound _ _ hI h hK
theorem seen_inv {M : World} {s : St} {a : Act} (hF : ∀ a, Γ.F a → a.block < Γ.w.heap.size) (hM : Γ.w.heap.size ≤ M.heap.size) (hs : a.tmps.size = s.sl.length) (hsl : ∀ (i : Nat) v x, a.tmps[i]? = some v → s.sl[i]? = some x → RV (Γ.seen M) v x)
    (hd : a.defers = []) (hb : s.bx = []) (ht : s.tk = []) (hg : s.gl = []) (hi : s.it = []) : Inv (Γ.seen M) 0 s a := by
  refine ⟨by rw [hd]; exact Marks.nil, hs, hsl, fun k => by simp [Ctx.seen, ht, look], fun k => by simp [Ctx.seen, hb, hi, look], by simp [Ctx.seen, hg], fun k cs hk => by simp [hb, look] at hk, fun k t hk => by simp [ht, look] at hk, fun o cs ho => by simp [hg] at ho, fun ad had => ⟨Nat.lt_of_lt_of_le (hF ad had) hM, .inl rfl⟩, fun g hg => absurd rfl hg, Nat.zero_le _, fun k p hk => by simp [hi, look] at hk⟩

theorem st_len {n : Nat} {l : List (Nat × V)} {bx : List (Nat × List W)} {tk : List (Nat × Tok)} {gl : List (List W)} {ro : Nat} {it : List (Nat × (List UInt8 × Nat))} : (st n l bx tk gl ro it).sl.length = n := by
  have : ∀ n i, (mkSl n i l).length = n := by
    intro n
    induction n with
    | zero => intro i; rfl
    | succ n ih => intro i; simp [mkSl, ih]
  exact this n 0
theorem st_blank {M : World} {n : Nat} {a : Act} (hF : ∀ a, Γ.F a → a.block < Γ.w.heap.size) (hM : Γ.w.heap.size ≤ M.heap.size) (hs : a.tmps.size = n) (hd : a.defers = []) : Inv (Γ.seen M) 0 (st n [] [] [] [] 0) a :=
  seen_inv hF hM (by rw [st_len]; exact hs) (fun i v x hv hx => by
    have : x = V.un := by
      simp only [st] at hx
      rw [mkSl_get] at hx
      split at hx
      · simpa [lk_nil] using hx.symm
      · cases hx
    subst this; trivial) hd rfl rfl rfl rfl
theorem st_learn {B n : Nat} {l : List (Nat × V)} {bx : List (Nat × List W)} {tk : List (Nat × Tok)} {gl : List (List W)} {ro : Nat} {it : List (Nat × (List UInt8 × Nat))} {a : Act} (h : Inv Γ B (st n l bx tk gl ro it) a) {i : Nat} {v : Value} {x : V} (hv : a.tmps[i]? = some v) (hx : RV Γ v x) :
    Inv Γ B (st n ((i, x) :: l) bx tk gl ro it) a := by
  refine ⟨h.defers, by rw [h.size, st_len, st_len], fun j u y hu hy => ?_, h.len, h.bl, h.ng, h.boxes, h.toks, h.globs, h.fix, h.ownlt, h.base, h.its⟩
  simp only [st] at hy
  rw [mkSl_get] at hy
  split at hy
  · rename_i hj
    simp only [Nat.zero_add, lk_cons, Option.some.injEq] at hy
    by_cases hij : i = j
    · subst hij
      rw [if_pos rfl] at hy
      subst hy
      rw [hv] at hu
      cases hu
      exact hx
    · rw [if_neg hij] at hy
      refine h.slots j u y hu ?_
      simp only [st]
      rw [mkSl_get, if_pos hj, Nat.zero_add, hy]
  · cases hy
theorem st_putI {B n : Nat} {l : List (Nat × V)} {bx : List (Nat × List W)} {tk : List (Nat × Tok)} {gl : List (List W)} {ro : Nat} {it : List (Nat × (List UInt8 × Nat))} {a : Act} (h : Inv Γ B (st n l bx tk gl ro it) a) {i : Nat} (hi : i < n) {v : Value} {x : V} (hx : RV Γ v x) :
    Inv Γ B (st n ((i, x) :: l) bx tk gl ro it) (a.put (some i) v) := by
  rw [← st_put hi]
  exact h.put (some i) hx
theorem step_val {r : Option Nat} {n : Nat} {ops : Array Oper} {Q : Exit → Act → World → Prop} {o : Oper} {rest : List Oper} {a : Act} {M : World} {u : Value} (hg : o.guard = none) (hd : ∀ c, o.op ≠ .defer c)
    (hr : (execOp a.eval o).run P M = .ok (.value u) M) (h : wpListIn (Fr r) n P ops Q rest (a.put o.dst u) M) : wpListIn (Fr r) n P ops Q (o :: rest) a M := by
  refine wpListIn_step fun K hKK => ?_
  have hw : Region.wanted o (yielded ops a.tmps) = true := by unfold Region.wanted; rw [hg]
  rw [if_pos hw]
  refine wpIn_of_wp hd ?_
  unfold Oper.wp
  rw [hr]
  exact hKK _ _ h
theorem step_yield {ops : Array Oper} {Q : Exit → Act → World → Prop} {o : Oper} {rest : List Oper} {a : Act} {M : World} {g : Operand} {ags : Array Operand} {ts : Array TypeId} {l : Nat} {R : Ending → World → Prop} (hg : o.guard = none)
    (hop : o.op = .call { callee := .value g, args := ags, argTypes := ts }) (hv : a.eval g = .func (.yield l) #[] #[]) (hy : YieldAt (Fr none) 0 P l (ags.map a.eval) M R) (hR : ∀ e M', R e M' → ∃ v, e = .returned v ∧ wpListIn (Fr none) 0 P ops Q rest (a.put o.dst v) M') :
    wpListIn (Fr none) 0 P ops Q (o :: rest) a M := by
  obtain ⟨fn, tmps, assign, body, h1, h2⟩ := hy
  refine wpListIn_step fun K hKK => ?_
  have hw : Region.wanted o (yielded ops a.tmps) = true := by unfold Region.wanted; rw [hg]
  rw [if_pos hw]
  refine ⟨fun _ _ => trivial, ?_⟩
  rw [Oper.semAt_eq _ _ _ (fun c e => by rw [hop] at e; cases e)]
  have hx : (execOp a.eval o).run P M = .ok (.round l fn tmps assign body) M := by
    unfold execOp
    rw [hop]
    simp only [resolve, hv, Deferred.ofValue, Sem.run_bind, Sem.run_pure, Result.andThen_ok, invoke]
    simpa using h1
  rw [hx, Oper.uponIn_round]
  refine ⟨fun h => (by cases h), h2.mono ?_⟩
  intro e M' hr
  obtain ⟨v, rfl, hw'⟩ := hR e M' hr
  exact hKK _ _ hw'
theorem load_one {t : TypeId} (hb : isAggT P t = some false) {w : World} {g : Nat} {u : Value} (h0 : w.cell? ⟨g, 0, none⟩ = some u) : (Instr.loadAt t (ptr g 0)).run P w = .ok u w := by
  simp [Instr.loadAt, ptr, Instr.sureAddr, loadVar, run_isAggT hb, h0]
theorem rv_int (k : IntKind) (n : Int) : RV Γ (.int k n) (V.int k n) := RD.int k n
theorem eval_tmp {a : Act} {i : Nat} {v : Value} (h : a.tmps[i]? = some v) : a.eval (.tmp i) = v := by
  simp only [Act.eval]
  rw [Array.getD_eq_getD_getElem?, h]
  rfl
theorem step_load {r : Option Nat} {n : Nat} {ops : Array Oper} {Q : Exit → Act → World → Prop} {o : Oper} {rest : List Oper} {a : Act} {M : World} {u : Value} {t : TypeId} {i g : Nat} (hg : o.guard = none) (hop : o.op = .load t (.tmp i))
    (hb : isAggT P t = some false) (hv : a.tmps[i]? = some (ptr g 0)) (h0 : M.cell? ⟨g, 0, none⟩ = some u) (h : wpListIn (Fr r) n P ops Q rest (a.put o.dst u) M) : wpListIn (Fr r) n P ops Q (o :: rest) a M := by
  refine step_val hg (fun c e => by rw [hop] at e; cases e) ?_ h
  unfold execOp
  rw [hop]
  simp only [eval_tmp hv, Sem.run_bind, load_one hb h0, Result.andThen_ok, Sem.run_pure]
theorem step_move {r : Option Nat} {n : Nat} {ops : Array Oper} {Q : Exit → Act → World → Prop} {o : Oper} {rest : List Oper} {a : Act} {M : World} {u : Value} {i : Nat} (hg : o.guard = none) (hop : o.op = .move (.tmp i))
    (hv : a.tmps[i]? = some u) (h : wpListIn (Fr r) n P ops Q rest (a.put o.dst u) M) : wpListIn (Fr r) n P ops Q (o :: rest) a M := by
  refine step_val hg (fun c e => by rw [hop] at e; cases e) ?_ h
  unfold execOp
  rw [hop]
  simp only [eval_tmp hv, Sem.run_bind, Sem.run_pure, Result.andThen_ok]
theorem step_not {r : Option Nat} {n : Nat} {ops : Array Oper} {Q : Exit → Act → World → Prop} {o : Oper} {rest : List Oper} {a : Act} {M : World} {b : Bool} {i : Nat} {t : TypeId} (hg : o.guard = none) (hop : o.op = .unOp .not t (.tmp i))
    (hv : a.tmps[i]? = some (.bool b)) (h : wpListIn (Fr r) n P ops Q rest (a.put o.dst (.bool (!b))) M) : wpListIn (Fr r) n P ops Q (o :: rest) a M := by
  refine step_val hg (fun c e => by rw [hop] at e; cases e) ?_ h
  obtain ⟨u, hr, hu⟩ := un_sound (P := P) (Γ := { F := fun _ => False, w := M, box := fun _ => 0, bl := fun _ => False, tok := fun _ => undef, len := fun _ => none, glb := fun _ => (0, 0), ng := 0, own := fun _ => none }) (op := .not) (v := .bool b) (x := V.bool b) (z := V.bool (!b)) (RD.bool b) rfl M
  cases hu
  unfold execOp
  rw [hop]
  simp only [eval_tmp hv, Sem.run_bind, hr, Result.andThen_ok, Sem.run_pure]
theorem slot_bool {B : Nat} {s : St} {a : Act} (h : Inv Γ B s a) {i : Nat} {b : Bool} (hs : s.get i = V.bool b) : a.eval (.tmp i) = .bool b := by
  have := get_sound h i
  rw [hs] at this
  simp only [Act.eval]
  generalize a.tmps.getD i undef = v at this ⊢
  cases this
  rfl
theorem slot_val {B : Nat} {s : St} {a : Act} (h : Inv Γ B s a) {i : Nat} {k : IntKind} {m : Int} (hs : s.get i = V.int k m) (hi : i < s.sl.length) : a.tmps[i]? = some (.int k m) := by
  have := get_sound h i
  rw [hs] at this
  have hlt : i < a.tmps.size := by rw [h.size]; exact hi
  rw [Array.getD_eq_getD_getElem?, Array.getElem?_eq_getElem hlt] at this
  rw [Array.getElem?_eq_getElem hlt]
  generalize a.tmps[i] = v at this ⊢
  cases this
  rfl
theorem backA_get (xs : List (List D)) : ∀ (n k : Nat), k < n → (backA xs n)[k]? = some [.w (.d (.int .i64 ((n - 1 - k : Nat) : Int))), .agg ((xs[n - 1 - k]?.getD []).map .d)]
  | 0, k, h => by omega
  | n + 1, 0, h => by simp [backA]
  | n + 1, k + 1, h => by
    rw [backA, List.getElem?_cons_succ, backA_get xs n k (by omega)]
    simp only [show n + 1 - 1 - (k + 1) = n - 1 - k by omega]
theorem backA_len (xs : List (List D)) : ∀ n, (backA xs n).length = n
  | 0 => rfl
  | n + 1 => by simp [backA, backA_len xs n]
theorem backA_two (xs : List (List D)) : ∀ n, ∀ y ∈ backA xs n, y.length = 2
  | 0, y, h => by simp [backA] at h
  | n + 1, y, h => by
    simp only [backA, List.mem_cons] at h
    rcases h with rfl | h
    · rfl
    · exact backA_two xs n y h
end

theorem back_iter {cs : List W} {m : Nat} {ys : List (List C)} (h : iterBack 3 cs = some (m, ys)) : IterC Tryz.prog 270 cs m ys := by
  unfold iterBack at h
  split at h
  rotate_left
  · cases h
  rename_i x
  rw [Option.bind_eq_some_iff] at h
  obtain ⟨xs, hxs, h⟩ := h
  split at h
  rotate_left
  · cases h
  rename_i hall
  cases h
  refine ⟨⟨_, Tryz.func270, by kernel_rfl, rfl⟩, backA_two xs _, ?_⟩
  intro Γ g l vs ty hcs hone hF J Jx hJ hJb hJxb hY W h0
  rw [backA_len]
  obtain ⟨sv, hsv, hrw⟩ : ∃ sv, vs[0]? = some sv ∧ RW Γ sv x := by
    obtain ⟨sv, h1, h2⟩ := hcs.get (i := 0) rfl
    refine ⟨sv, ?_, h2⟩
    simpa using h1
  have hsl := elems_sound hrw hxs
  have hmax : xs.length ≤ 9223372036854775807 := by
    cases hsl with
    | sl A n c sz xs vs hn hc hm => simp only [maxLen] at hm; omega
  have seen : ∀ {k M}, J k M → Γ.w.heap.size ≤ M.heap.size ∧ M.cell? ⟨g, 0, none⟩ = some sv ∧ RV (Γ.seen M) sv (.c (.w (.d (.sl xs)))) := fun {k M} hj => by
    obtain ⟨h1, h2, h3⟩ := hJ k M hj
    refine ⟨h1, ?_, hsl.mono fun a ha => ⟨ha, h3 a ha⟩⟩
    rw [cell_of_heap h2]
    exact hsv
  have hag : isAggT Tryz.prog 45 = some false := by simp
  refine callsIn_of_wp Tryz.func270 rfl trivial ?_ rfl
  have hwr : IntKind.i64.wrap ((xs.length : Int) - 1) = (xs.length : Int) - 1 := IntWalk.i64_in _ (by omega)
  let Fm : Act → Int → Prop := fun a i => a.tmps.size = 19 ∧ a.tmps[0]? = some (.func (.yield l) #[] #[]) ∧ a.tmps[1]? = some (ptr g 0) ∧ a.tmps[3]? = some (.int .i64 i) ∧ a.defers = []
  obtain ⟨s1, s2, s3⟩ := seen h0
  have z0 : ∀ a0 : Act, a0 = { tmps := #[.func (.yield l) #[] #[], ptr g 0] ++ Array.replicate (Tryz.f270.ntmps - (#[.func (.yield l) #[] #[], ptr g 0] : Array Value).size) undef, defers := [] } →
      a0.tmps.size = 19 ∧ a0.tmps[0]? = some (.func (.yield l) #[] #[]) ∧ a0.tmps[1]? = some (ptr g 0) ∧ a0.defers = [] := by
    rintro _ rfl
    refine ⟨?_, ?_, ?_, rfl⟩
    · show (_ ++ Array.replicate (19 - 2) undef).size = 19; simp
    · rw [Array.getElem?_append_left (by simp)]; rfl
    · rw [Array.getElem?_append_left (by simp)]; rfl
  generalize ({ tmps := #[.func (.yield l) #[] #[], ptr g 0] ++ Array.replicate (Tryz.f270.ntmps - (#[.func (.yield l) #[] #[], ptr g 0] : Array Value).size) undef, defers := [] } : Act) = a0 at z0 ⊢
  obtain ⟨z1, z2, z3, z4⟩ := z0 _ rfl
  refine wpIn_seq (wpIn_region_list ?_)
  refine step_load rfl rfl hag z3 s2 ?_
  refine calms_list 3 (s' := st 19 [(3, V.int .i64 ((xs.length : Int) - 1)), (6, V.int .i64 ((xs.length : Int) - 1)), (5, V.int .i64 xs.length), (4, .c (.w (.d (.sl xs))))] [] [] [] 0) (st_putI (st_blank hF s1 z1 z4) (by omega) s3) ?_ ?_
  · simp [calmsA, purer, hwr]
  intro a1 hi1 hd1 ht1
  have f1 : Fm a1 ((xs.length : Int) - 1) := by
    refine ⟨by rw [hi1.size, st_len], ?_, ?_, slot_val hi1 (by simp) (by rw [st_len]; omega), hd1.trans z4⟩
    · rw [ht1 0 (by simp)]; simpa [Act.put] using z2
    · rw [ht1 1 (by simp)]; simpa [Act.put] using z3
  change Code.wpIn _ _ _ _ _ _ _
  refine wpIn_block (wpIn_loop (fun a M => ∃ k : Nat, k ≤ xs.length ∧ J k M ∧ Fm a ((xs.length : Int) - 1 - k)) (fun (a : Act) (_ : World) => match a.tmps[3]? with | some (Value.int _ i) => (i + 1).toNat | _ => 0) ⟨0, Nat.zero_le _, h0, by simpa using f1⟩ ?_)
  rintro a M ⟨k, hk, hj, g1, g2, g3, g4, g5⟩
  obtain ⟨m1, m2, m3⟩ := seen hj
  refine wpIn_seq (wpIn_seq (wpIn_region_list ?_))
  refine calms_list 2 (s' := st 19 [(8, V.bool (decide ((0 : Int) ≤ (xs.length : Int) - 1 - k))), (7, V.int .i64 ((xs.length : Int) - 1 - k)), (3, V.int .i64 ((xs.length : Int) - 1 - k))] [] [] [] 0) (st_learn (st_blank hF m1 g1 g5) g4 (rv_int _ _)) ?_ ?_
  · simp [calmsA, purer]
  intro a2 hi2 hd2 ht2
  change Code.wpIn _ _ _ _ _ _ _
  have c8 := slot_bool hi2 (i := 8) (b := decide ((0 : Int) ≤ (xs.length : Int) - 1 - k)) (by rw [st_get (by omega)]; rfl)
  have w1 : a2.tmps.size = 19 := by rw [hi2.size, st_len]
  have w2 := (ht2 0 (by simp)).trans g2
  have w3 := (ht2 1 (by simp)).trans g3
  have w4 := (ht2 3 (by simp)).trans g4
  have w5 := hd2.trans g5
  by_cases hlt : k < xs.length
  · rw [decide_eq_true (by omega)] at c8
    obtain ⟨j, hjn⟩ : ∃ j : Nat, j = xs.length - 1 - k := ⟨_, rfl⟩
    have hji : (xs.length : Int) - 1 - k = (j : Int) := by omega
    rw [hji] at w4
    have hjl : j < xs.length := by omega
    obtain ⟨d0, d1, d2, hq⟩ : ∃ d0 d1 d2, xs[j]? = some [d0, d1, d2] := by
      have h1 : xs[j]? = some xs[j] := List.getElem?_eq_getElem hjl
      have h2 := List.all_eq_true.1 hall xs[j] (List.getElem_mem hjl)
      simp only [beq_iff_eq] at h2
      rw [h1]
      match hx : xs[j], h2 with
      | [d0, d1, d2], _ => exact ⟨d0, d1, d2, rfl⟩
    refine wpIn_cond_true c8 (wpIn_skip ?_)
    change Code.wpIn _ _ _ _ _ _ _
    refine wpIn_seq (wpIn_block (wpIn_seq (wpIn_region_list ?_)))
    refine step_move rfl rfl w2 (step_move (u := .int .i64 (j : Int)) rfl rfl (by simpa [Act.put, Array.getElem?_setIfInBounds] using w4) (step_load rfl rfl hag (by simpa [Act.put, Array.getElem?_setIfInBounds] using w3) m2 ?_))
    have hq' : xs[j] = [d0, d1, d2] := (List.getElem?_eq_some_iff.1 hq).2
    refine calms_list 3 (s' := st 19 [(16, .c (.agg [.d d0, .d d1, .d d2])), (15, .c (.w (.ref [d0, d1, d2]))), (14, V.int .i64 j), (13, .c (.w (.d (.sl xs)))), (12, V.int .i64 j), (11, V.un), (3, V.int .i64 j)] [] [] [] 0)
      (st_putI (st_putI (st_putI (st_learn (st_blank hF m1 w1 w5) w4 (rv_int _ _)) (by omega) (x := V.un) trivial) (by omega) (rv_int _ _)) (by omega) m3) ?_ ?_
    · simp [calmsA, purer, hjl, hq']
    intro a5 hi5 hd5 ht5
    have u1 : a5.tmps.size = 19 := by rw [hi5.size, st_len]
    have u2 : a5.tmps[0]? = some (.func (.yield l) #[] #[]) := (ht5 0 (by simp)).trans (by simpa [Act.put, Array.getElem?_setIfInBounds] using w2)
    have u3 : a5.tmps[1]? = some (ptr g 0) := (ht5 1 (by simp)).trans (by simpa [Act.put, Array.getElem?_setIfInBounds] using w3)
    have u4 : a5.tmps[3]? = some (.int .i64 j) := (ht5 3 (by simp)).trans (by simpa [Act.put, Array.getElem?_setIfInBounds] using w4)
    have u5 : a5.defers = [] := hd5.trans w5
    have u11 : a5.tmps[11]? = some (.func (.yield l) #[] #[]) := (ht5 11 (by simp)).trans (by simp [Act.put, Array.getElem?_setIfInBounds, w1])
    have hyk : (backA xs xs.length)[k]? = some [.w (.d (.int .i64 j)), .agg [.d d0, .d d1, .d d2]] := by
      rw [backA_get xs xs.length k hlt, ← hjn, hq]
      rfl
    have r12 : RV (Γ.seen M) (a5.eval (.tmp 12)) (V.int .i64 j) := by
      have := get_sound hi5 12
      rw [st_get (by omega)] at this
      exact this
    have r16 : RV (Γ.seen M) (a5.eval (.tmp 16)) (.c (.agg [.d d0, .d d1, .d d2])) := by
      have := get_sound hi5 16
      rw [st_get (by omega)] at this
      exact this
    have hyy := hY k _ [a5.eval (.tmp 12), a5.eval (.tmp 16)] M hyk (All2.cons r12 (All2.cons r16 All2.nil)) hj
    refine step_yield (l := l) rfl rfl (eval_tmp u11) (M := M) (R := fun e W' => (e = .returned (.bool true) ∧ J (k + 1) W') ∨ (e = .returned (.bool false) ∧ Jx W')) (by simpa using hyy) ?_
    rintro e M' (⟨rfl, hj'⟩ | ⟨rfl, hjx⟩)
    · refine ⟨_, rfl, step_not (b := true) rfl rfl (by simp [Act.put, Array.getElem?_setIfInBounds, u1]) ?_⟩
      change Code.wpIn _ _ _ _ _ _ _
      refine wpIn_cond_false (eval_tmp (by simp [Act.put, Array.getElem?_setIfInBounds, u1])) (wpIn_skip ?_)
      change Code.wpIn _ _ _ _ _ _ _
      refine wpIn_region_list ?_
      obtain ⟨n1, n2, n3⟩ := seen hj'
      have hwj : IntKind.i64.wrap ((j : Int) - 1) = (j : Int) - 1 := IntWalk.i64_in _ (by omega)
      refine calms_list 3 (s' := st 19 [(3, V.int .i64 ((j : Int) - 1)), (10, V.int .i64 ((j : Int) - 1)), (9, V.int .i64 j), (3, V.int .i64 j)] [] [] [] 0) (st_learn (st_blank hF n1 (by simpa [Act.put] using u1) (by simpa [Act.put] using u5)) (i := 3) (by simpa [Act.put, Array.getElem?_setIfInBounds] using u4) (rv_int _ _)) ?_ ?_
      · simp [calmsA, purer, hwj]
      intro a8 hi8 hd8 ht8
      have v4 : a8.tmps[3]? = some (.int .i64 ((j : Int) - 1)) := slot_val hi8 (by rw [st_get (by omega)]; rfl) (by rw [st_len]; omega)
      refine ⟨⟨k + 1, by omega, hj', by rw [hi8.size, st_len], (ht8 0 (by simp)).trans (by simpa [Act.put, Array.getElem?_setIfInBounds] using u2), (ht8 1 (by simp)).trans (by simpa [Act.put, Array.getElem?_setIfInBounds] using u3), ?_, hd8.trans (by simpa [Act.put] using u5)⟩, ?_⟩
      · rw [v4]
        have : ((xs.length : Int) - 1 - (k + 1 : Nat)) = (j : Int) - 1 := by omega
        rw [this]
      · simp only [v4, g4]
        omega
    · refine ⟨_, rfl, step_not (b := false) rfl rfl (by simp [Act.put, Array.getElem?_setIfInBounds, u1]) ?_⟩
      change Code.wpIn _ _ _ _ _ _ _
      refine wpIn_cond_true (eval_tmp (by simp [Act.put, Array.getElem?_setIfInBounds, u1])) (wpIn_ret ?_)
      simp only [Exit.then, Exit.inBlock, bodyPost]
      exact ⟨by simpa [Act.put] using u5, _, results_none rfl _ _ _, ⟨_, rfl⟩, .inr hjx⟩
  · obtain rfl : k = xs.length := by omega
    rw [decide_eq_false (by omega)] at c8
    refine wpIn_cond_false c8 (wpIn_exit ?_)
    simp only [Exit.then, Exit.inBlock, if_true, bodyPost]
    exact ⟨w5, _, results_none rfl _ _ _, ⟨_, rfl⟩, .inl hj⟩
theorem base_ : Base Tryz.prog cf := ⟨by kernel_rfl, fun f cs m ys h => by
  simp only [cf, cfIter] at h
  split at h
  · rename_i he; subst he; exact back_iter h
  cases h⟩
end Go.Proofs.YtckonoejmjblfaaGreatDoor.Ev
