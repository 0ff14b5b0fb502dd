/- A law's row, out of what the evaluator says. -/
import Derived.Test.YtckonoejmjblfaaGreatEvL
import Derived.Handed
set_option linter.unusedVariables false
set_option linter.unusedSimpArgs false
namespace Go.Proofs.YtckonoejmjblfaaGreat.Ev
open Go Go.RowKit Go.ChangeShapes Go.WideShapes Go.ChangeAt

section
variable {P : Program}

/-- An argument of a type. -/
def ArgOf (P : Program) (n : Nat) (t : TypeId) (c : C) : Prop :=
  ∃ ds, Shape P n t ds ∧ ((isAggT P t = some true ∧ c = .agg (ds.map .d)) ∨ (isAggT P t = some false ∧ ∃ d, ds = [d] ∧ c = .w (.d d)))

/-- Where a law begins. -/
def Ctx.first (W : World) : Ctx := { F := allF W, w := W, box := fun _ => 0, bl := fun _ => False, tok := fun _ => .nilFunc, len := fun _ => none, glb := fun _ => (0, 0), ng := 0, own := fun _ => none }

theorem arg_of {H : Type} {enc : TypeId × Value → H} {W : World} {sp : Nat → Bool} {held : Bool} {base n : Nat} {t : TypeId} {v : Value} {d : DataW H} {ps : List MemPlace} (h : DataW.Trod enc P W 0 sp held t v d ps) (hp : plainT P n t = true)
    (hok : Value.okWide P W .any base t v) : ∃ c, ArgOf P n t c ∧ RC (Ctx.first W) v c := by
  obtain ⟨fuel, hf⟩ := h
  obtain ⟨ds, hs, ha⟩ := trod_shape n fuel t _ _ hf hp
  cases n with
  | zero => simp [plainT] at hp
  | succ n =>
    unfold plainT at hp
    unfold Value.okWide at hok
    have scalar : ∀ u, P.underlying t = some u → aggD u = false → (∃ d, ds = [d]) → Cell.okWide P W .any base t v → ∃ c, ArgOf P (n + 1) t c ∧ RC (Ctx.first W) v c := by
      intro u hu hag hd hc
      obtain ⟨d, rfl⟩ := hd
      obtain ⟨w, r, hw, h1, h2⟩ := ha.uncons
      rw [h2.nil_iff] at hw
      have hv : v = w := by
        have hnot : ∀ cs, v ≠ .agg cs := by
          rintro cs rfl
          unfold Cell.okWide at hc
          split at hc
          all_goals first | (rename_i heq _; cases heq; done) | (rename_i heq; cases heq; done) | skip
          unfold Cell.ok at hc
          split at hc
          all_goals first | (rename_i heq _; cases heq; done) | (rename_i heq; cases heq; done) | skip
          all_goals first | exact hc | simp_all
        cases v <;> simp [Value.cells] at hw <;> first | exact hw | (exact absurd rfl (hnot _))
      subst hv
      exact ⟨_, ⟨[d], hs, .inr ⟨by rw [isAgg_of hu, hag], d, rfl, rfl⟩⟩, h1⟩
    have agg : ∀ u, P.underlying t = some u → aggD u = true → (∃ cs, v = .agg cs) → ∃ c, ArgOf P (n + 1) t c ∧ RC (Ctx.first W) v c := by
      rintro u hu hag ⟨cs, rfl⟩
      exact ⟨_, ⟨ds, hs, .inl ⟨by rw [isAgg_of hu, hag], rfl⟩⟩, cs, rfl, All2.map_right (R := RW (Ctx.first W)) _ ha, fun u hu => by
        obtain ⟨i, hi⟩ := List.getElem?_of_mem hu
        have hl : i < ds.length := by rw [← ha.1]; exact (List.getElem?_eq_some_iff.1 hi).1
        exact (ha.2 i u _ hi (List.getElem?_eq_getElem hl)).oneCell.1⟩
    have hs' := hs
    unfold Shape at hs'
    split at hp
    · rename_i hu
      rw [hu] at hok hs'
      obtain ⟨b, hb⟩ := hs'
      exact scalar _ hu rfl ⟨_, hb⟩ hok
    · rename_i hu
      rw [hu] at hok hs'
      obtain ⟨b, hb, _⟩ := hs'
      exact scalar _ hu rfl ⟨_, hb⟩ hok
    · rename_i hu
      rw [hu] at hok hs'
      obtain ⟨b, hb, _⟩ := hs'
      exact scalar _ hu rfl ⟨_, hb⟩ hok
    · rename_i hu
      rw [hu] at hok hs'
      obtain ⟨b, hb, _⟩ := hs'
      exact scalar _ hu rfl ⟨_, hb⟩ hok
    · rename_i hu
      rw [hu] at hok
      obtain ⟨cs, hv, _⟩ := hok
      exact agg _ hu rfl ⟨cs, hv⟩
    · rename_i hu
      rw [hu] at hok
      obtain ⟨cs, hv, _⟩ := hok
      exact agg _ hu rfl ⟨cs, hv⟩
    · cases hp

theorem args_of {H : Type} {enc : TypeId × Value → H} {W : World} {sp : Nat → Bool} {held : Bool} {base n : Nat} : ∀ {ts : List TypeId} {vs : List Value} {ds : List (DataW H)} {ps : List MemPlace}, DataW.TrodAll enc P W 0 sp held ts vs ds ps → (ts.all fun t => plainT P n t) = true →
    (∀ (j : Nat) t v, ts[j]? = some t → vs[j]? = some v → Value.okWide P W .any base t v) → ∃ cs, All2 (ArgOf P n) ts cs ∧ All2 (RC (Ctx.first W)) vs cs
  | [], vs, ds, ps, h, _, _ => by obtain ⟨rfl, _, _⟩ := trodAll_nil h; exact ⟨[], All2.nil, All2.nil⟩
  | t :: ts, vs, ds, ps, h, hp, hok => by
    obtain ⟨v, vs', d, ds', p, q, rfl, rfl, _, h1, h2⟩ := trodAll_cons h
    simp only [List.all_cons, Bool.and_eq_true] at hp
    obtain ⟨c, k1, k2⟩ := arg_of h1 hp.1 (hok 0 t v rfl rfl)
    obtain ⟨cs, k3, k4⟩ := args_of h2 hp.2 (fun j t v ht hv => hok (j + 1) t v (by simpa using ht) (by simpa using hv))
    exact ⟨c :: cs, All2.cons k1 k3, All2.cons k2 k4⟩

/-- A law's call. -/
theorem law_calls {cfg : Cfg} {ext : Nat → Option Caller} (hm : Base P cfg) (hx : ∀ f g, ext f = some g → Sound P False (fun f' => if f' = f then g f' else fun _ _ _ => none)) {f n : Nat} (hxf : ext f = none) {W : World} {vals : List Value} {args : List C} {r : V} {gl : List (List Ev.W)}
    (ha : All2 (RC (Ctx.first W)) vals args) (h : evF P cfg ext n f args 0 [] = some (r, gl)) :
    Calls P f vals.toArray W fun e w' => ∃ Γ' v, e = .returned v ∧ Below W.heap.size W w' ∧ RV Γ' v r := by
  have h3 := evF_left hm hx hxf h
  have hI : Inv (Ctx.first W) (Ctx.first W).w.heap.size { sl := args.map .c, bx := [], tk := [], gl := [], ro := 0 } { tmps := vals.toArray, defers := [] } := by
    refine ⟨Marks.nil, by simp [ha.1], fun i v x hv hx => ?_, fun k => rfl, fun k => by simp [Ctx.first, look], rfl, fun k cs hk => by simp [look] at hk, fun k t hk => by simp [look] at hk, fun o cs ho _ => by simp at ho, fun a ha => ⟨ha, .inl rfl⟩, fun g hg => absurd rfl hg, Nat.le_refl _, fun k p hk => by simp [look] at hk⟩
    rw [List.getElem?_map, Option.map_eq_some_iff] at hx
    obtain ⟨c, hc, rfl⟩ := hx
    exact ha.2 i v c (by simpa using hv) hc
  refine (h3 (Ctx.first W) vals hI).mono ?_
  rintro e w' ⟨Γ', v, rfl, rfl, st, hI'⟩
  exact ⟨Γ', v, rfl, ⟨st.os, st.tape, st.output, st.size, fun g hg => st.old g hg (fun o e => by cases e)⟩, hI'.slots 0 v _ rfl rfl⟩

theorem trodAll_below {H : Type} {enc : TypeId × Value → H} (hl : laidOutB P = true) {W W' : World} (hb : Below W.heap.size W W') : ∀ {ts : List TypeId} {vs : List Value} {ds : List (DataW H)} {ps : List MemPlace}, (ts.all fun t => P.readableRec t && decide (t < P.types.size)) = true → DataW.TrodAll enc P W 0 (fun _ => true) true ts vs ds ps →
    DataW.TrodAll enc P W' 0 (fun b => decide (b < W.heap.size)) true ts vs ds ps
  | [], vs, ds, ps, _, h => by obtain ⟨rfl, rfl, rfl⟩ := trodAll_nil h; exact trodAll_mk0
  | t :: ts, vs, ds, ps, hr, h => by
    obtain ⟨v, vs', d, ds', p, q, rfl, rfl, rfl, h1, h2⟩ := trodAll_cons h
    simp only [List.all_cons, Bool.and_eq_true, decide_eq_true_eq] at hr
    have hlt : ∀ x ∈ p, x.block < W.heap.size := by obtain ⟨m, hm⟩ := h1; exact DataW.trod_lt m _ _ _ hm
    exact ⟨p, q, Below.trod hl hr.1.1 hr.1.2 h1 hb hlt, trodAll_below hl hb hr.2 h2, rfl⟩

theorem lifted_of {C : Checked} {cfg : Cfg} {ext : Nat → Option Caller} {f K : Nat} {fn : Func} {spec : ChangeSpec} {dom : List PathCond} (hm : Base C.prog cfg)
    (hx : ∀ f g, ext f = some g → Sound C.prog False (fun f' => if f' = f then g f' else fun _ _ _ => none)) (own : ownKnob C.prog.godebug = none) (hl : laidOutB C.prog = true) (hfn : C.prog.funcs[f]? = some fn) (hxf : ext f = none) (hin : C.prog.inits.idxOf? f = none)
    (hvars : spec.vars = []) (hspec : ∀ (H : Type) (ds : List (DataW H)), ds.length = fn.params.size → (spec.fn H ds).results = [.lit (.bool true)] ∧ (spec.fn H ds).args = ds ∧ (spec.fn H ds).vars = [])
    {tb : TypeId} (hres : fn.resultTypes = #[tb]) (htb : C.prog.underlying tb = some .bool) (hread : (fn.params.toList.all fun t => C.prog.readableRec t && decide (t < C.prog.types.size)) = true) (hplain : (fn.params.toList.all fun t => plainT C.prog K t) = true)
    (hev : ∀ args, All2 (ArgOf C.prog K) fn.params.toList args → ∃ n gl, evF C.prog cfg ext n f args 0 [] = some (V.bool true, gl))
    (os : Os) (started : os.Started) (H : Type) (enc : TypeId × Value → H)
    (hwit : ∃ (w : World) (tape : Tape) (i : Input), w.os = os ∧ (w.forCall tape i).Shaped C.prog ∧ i.vars = [] ∧ Input.okWide C.prog (w.forCall tape i) .any w.heap.size f i ∧
      spec.pre6 enc C.prog fn dom false (w.forCall tape i).memory i.args ∧ ({} : Assume).holds C.prog (lone (Frame.enter C.prog f i.args .normal) [] (w.forCall tape i))) :
    ReturnsInHanded {} C os f .any (spec.pre6 enc C.prog fn dom false) (spec.post enc C.prog fn false true false false) := by
  refine returnsInHanded_of_change (C := C) own started hin hfn hwit ?_
  intro W base args ds gs before hval hW hcnd _
  have hW' := hW
  obtain ⟨p, q, hA, hV, rfl, hfz, hnd⟩ := hW
  rw [hvars] at hV
  obtain ⟨rfl, rfl⟩ := trodVars_none hV
  obtain ⟨cs, k1, k2⟩ := args_of hA hplain (base := base) (fun j t v ht hv => hval j t v (by simpa using ht) (by simpa using hv))
  obtain ⟨n, gl, he⟩ := hev cs k1
  have hc := law_calls hm hx hxf k2 he
  have hargs : args.toList.toArray = args := by simp
  rw [hargs] at hc
  refine hc.mono ?_
  rintro e w' ⟨Γ', v, rfl, hb, hv⟩
  cases hv
  have hlen : ds.length = fn.params.size := by
    have : ∀ {ts : List TypeId} {vs : List Value} {ds : List (DataW H)} {ps : List MemPlace}, DataW.TrodAll enc C.prog W 0 (fun _ => true) true ts vs ds ps → ds.length = ts.length := by
      intro ts
      induction ts with
      | nil => intro vs ds ps h; obtain ⟨_, rfl, _⟩ := trodAll_nil h; rfl
      | cons t ts ih => intro vs ds ps h; obtain ⟨_, _, _, _, _, _, _, rfl, _, _, h2⟩ := trodAll_cons h; simp [ih h2]
    simpa using this hA
  obtain ⟨s1, s2, s3⟩ := hspec H ds hlen
  refine ⟨_, rfl, ds, [], _, [], p, [], hW', ?_, ?_, ?_, hb.frame _, fun h => by cases h⟩
  · rw [List.append_nil, s1, hres]
    exact trodAll_mk1 (shut_bool htb _)
  · rw [List.append_nil, s2]
    exact trodAll_below hl hb hread hA
  · rw [List.append_nil, s3, hvars]
    rfl
end
end Go.Proofs.YtckonoejmjblfaaGreat.Ev
