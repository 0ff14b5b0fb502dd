/- Regions whose order is open; code; functions: what the evaluator says of a call is what the machine does. -/
import Derived.Test.YtckonoejmjblfaaGreatEvI
import Derived.Still
set_option linter.unusedVariables false
set_option linter.unusedSimpArgs false
namespace Go.Proofs.YtckonoejmjblfaaGreat.Ev
open Go Go.RowKit

section
variable {ql : Prop} {P : Program}

/-- Alike but for some variables. -/
def Like (ks : List Nat) (s2 s : St) : Prop := ∀ k, ks.contains k = false → look s2.bx k = look s.bx k
theorem Like.of (ks : List Nat) {s2 s : St} (h : s2.bx = s.bx) : Like ks s2 s := fun k _ => by rw [h]
theorem Like.trans {ks : List Nat} {a b c : St} (h : Like ks a b) (h' : Like ks b c) : Like ks a c := fun k hk => (h k hk).trans (h' k hk)
/-- Does it look at what is shared? -/
def usesGl (s : St) : Op → Bool
  | .load _ x => match s.ev x with
    | some (.c (.w (.glo _ _))) => true
    | _ => false
  | .call { callee := .value _, .. } => true
  | _ => false
theorem loadC_congr {ks : List Nat} {s s2 : St} (hb : Like ks s2 s) (t : TypeId) (v : V) (hg : ∀ k o, v = .c (.w (.glo k o)) → s2.gl = s.gl) (hv : ∀ k o, v = .c (.w (.box k o)) → ks.contains k = false) : s2.loadC P t v = s.loadC P t v := by
  unfold St.loadC
  split
  · rename_i x
    have : ∀ n, s2.cellsAt x n = s.cellsAt x n := by
      intro n
      unfold St.cellsAt
      cases x <;> try rfl
      · rename_i k o
        simp only [hb k (hv k o rfl)]
      · rename_i k o
        simp only [hg k o rfl]
    simp only [this]
  · rfl
theorem partsOf_congr {s s2 : St} : ∀ (l : List (Nat × Operand)), (∀ p ∈ l, s2.ev p.2 = s.ev p.2) → partsOf s2 l = partsOf s l
  | [], _ => rfl
  | (i, x) :: r, h => by
    simp only [partsOf]
    rw [h (i, x) (by simp), partsOf_congr r (fun p hp => h p (by simp [hp]))]
theorem evs_congr {s s2 : St} : ∀ (l : List Operand), (∀ x ∈ l, s2.ev x = s.ev x) → s2.evs l = s.evs l
  | [], _ => rfl
  | x :: r, h => by
    simp only [St.evs]
    rw [h x (by simp), evs_congr r (fun p hp => h p (by simp [hp]))]
theorem boundV_congr {s s2 : St} {o : Option Operand} (h : ∀ x, o = some x → s2.ev x = s.ev x) (d t : Nat) : boundV s2 o d t = boundV s o d t := by
  cases o with
  | none => rfl
  | some x => simp only [boundV]; rw [h x rfl]

theorem calmA_congr {ks : List Nat} {s s2 : St} (hb : Like ks s2 s) : ∀ op : Op, (usesGl s op = true → s2.gl = s.gl) → lazyOp ks s op = true → (∀ x ∈ op.operands, s2.ev x = s.ev x) → calmA P s2 op = calmA P s op := by
  intro op hg hz h
  cases op with
  | move x => exact h x (by simp [Op.operands])
  | assign x => exact h x (by simp [Op.operands])
  | pick c a b => simp only [calmA]; rw [h c (by simp [Op.operands]), h a (by simp [Op.operands]), h b (by simp [Op.operands])]
  | build t ps => simp only [calmA, buildA]; rw [partsOf_congr _ (fun p hp => h p.2 (by simp only [Op.operands]; simp; exact ⟨p.1, by simpa using hp⟩))]
  | buildSlice t n ps => simp only [calmA, buildSliceA]; rw [partsOf_congr _ (fun p hp => h p.2 (by simp only [Op.operands]; simp; exact ⟨p.1, by simpa using hp⟩))]
  | load t x =>
    simp only [calmA]
    rw [h x (by simp [Op.operands])]
    cases hx : s.ev x with
    | none => rfl
    | some v =>
      simp only [Option.bind_some]
      rw [loadC_congr hb t v (fun k o e => hg (by subst e; simp [usesGl, hx]))]
      rintro k o rfl
      simpa [lazyOp, hx] using hz
  | nilCheck x => simp only [calmA]; rw [h x (by simp [Op.operands])]
  | binOp o t x y u => simp only [calmA]; rw [h x (by simp [Op.operands]), h y (by simp [Op.operands])]
  | unOp o t x => simp only [calmA]; rw [h x (by simp [Op.operands])]
  | convert a b x =>
    simp only [calmA]
    rw [h x (by simp [Op.operands])]
    cases hx : s.ev x with
    | none => rfl
    | some v =>
      simp only [Option.bind_some]
      have hk : ∀ k o n, v = .c (.w (.bsl k o n)) → look s2.bx k = look s.bx k := by
        rintro k o n rfl
        exact hb k (by simpa [lazyOp, hx] using hz)
      unfold convA
      split <;> try rfl
      split <;> try rfl
      split <;> try rfl
      rw [hk _ _ _ rfl]
  | slice t x lo hi m =>
    cases m with
    | some m =>
      cases lo with
      | some l => rfl
      | none =>
        simp only [calmA]
        rw [h x (by simp [Op.operands])]
        congr 1
        funext v
        unfold emptyA
        split <;> try rfl
        rename_i hh mm _ _ e1 e2
        cases e2
        rw [h _ (by simp [Op.operands]), h m (by simp [Op.operands])]
    | none =>
      simp only [calmA]
      rw [h x (by simp [Op.operands])]
      have e1 := fun d t => boundV_congr (o := lo) (s := s) (s2 := s2) (fun y hy => h y (by simp [Op.operands, hy])) d t
      have e2 := fun d t => boundV_congr (o := hi) (s := s) (s2 := s2) (fun y hy => h y (by simp [Op.operands, hy])) d t
      simp only [sliceA, e1, e2]
  | fieldAddr t x j => simp only [calmA]; rw [h x (by simp [Op.operands])]
  | field t x j => simp only [calmA]; rw [h x (by simp [Op.operands])]
  | indexAddr t x y => simp only [calmA]; rw [h x (by simp [Op.operands]), h y (by simp [Op.operands])]
  | index t x y => simp only [calmA]; rw [h x (by simp [Op.operands]), h y (by simp [Op.operands])]
  | extract x j => simp only [calmA]; rw [h x (by simp [Op.operands])]
  | makeFunc f a b =>
    cases f <;> try rfl
    simp only [calmA]
    rw [evs_congr _ (fun x hx => h x (by simp [Op.operands]; right; simpa using hx))]
  | call c =>
    obtain ⟨callee, args, ts⟩ := c
    cases callee with
    | value f => rfl
    | invoke r m => rfl
    | builtin b =>
      cases b <;> try rfl
      · simp only [calmA]
        split
        · rename_i x t h1 h2
          rw [h x (by simp [Op.operands, Call.operands]; rw [← Array.mem_toList_iff, h1]; simp)]
        · rfl
      all_goals
        simp only [calmA]
        split
        · rename_i x y h1
          rw [h x (by simp [Op.operands, Call.operands]; rw [← Array.mem_toList_iff, h1]; simp), h y (by simp [Op.operands, Call.operands]; rw [← Array.mem_toList_iff, h1]; simp)]
        · rfl
  | _ => rfl

theorem get_put_ne {s : St} {d : Option Nat} {v : V} {t : Nat} (h : ∀ k, d = some k → k ≠ t) : (s.put d v).get t = s.get t := by
  cases d with
  | none => rfl
  | some k =>
    simp only [St.put, St.get, List.getD_eq_getElem?_getD]
    rw [List.getElem?_set_ne (h k rfl)]
theorem put_comm {s : St} {d e : Option Nat} {v u : V} (h : ∀ k, d = some k → e ≠ some k) : (s.put d v).put e u = (s.put e u).put d v := by
  cases d with
  | none => rfl
  | some k =>
    cases e with
    | none => rfl
    | some j =>
      have : k ≠ j := fun q => h k rfl (by rw [q])
      simp only [St.put]
      rw [List.set_comm _ _ this]
theorem ev_put {s : St} {d : Option Nat} {v : V} {x : Operand} (h : ∀ k, d = some k → x ≠ .tmp k) : (s.put d v).ev x = s.ev x := by
  cases x with
  | tmp t => simp only [St.ev]; rw [get_put_ne (fun k hk e => h k hk (by rw [e]))]
  | _ => rfl
theorem put_bx (s : St) (d : Option Nat) (v : V) : (s.put d v).bx = s.bx := by cases d <;> rfl
theorem put_gl (s : St) (d : Option Nat) (v : V) : (s.put d v).gl = s.gl := by cases d <;> rfl
theorem put_ro (s : St) (d : Option Nat) (v : V) : (s.put d v).ro = s.ro := by cases d <;> rfl

/-- A calm step's value hangs on what it looks at. -/
def Yield (P : Program) (cfg : Cfg) (fid : Nat) (call : Caller) (ops : Array Oper) (s : St) (o : Oper) (v : V) : Prop := stepA P cfg fid call ops.toList s o = some (s.put o.dst v)

theorem calmOp_step {cfg : Cfg} {fid : Nat} {call : Caller} {ops : Array Oper} {s s1 : St} {o : Oper} {ks : List Nat} (hz : lazyOp ks s o.op = true) (hc : calmOp cfg o.op = true) (h : stepA P cfg fid call ops.toList s o = some s1) :
    ∃ v, s1 = s.put o.dst v ∧ ∀ s2 : St, Like ks s2 s → (usesGl s o.op = true → s2.gl = s.gl) → s2.ro = s.ro → (∀ x ∈ o.op.operands, s2.ev x = s.ev x) → wantedA s2 ops.toList o = wantedA s ops.toList o → Yield P cfg fid call ops s2 o v := by
  unfold stepA at h
  rw [Option.bind_eq_some_iff] at h
  obtain ⟨q, hq, h⟩ := h
  have lift : ∀ (v : V), (q = true → ∀ s2 : St, Like ks s2 s → (usesGl s o.op = true → s2.gl = s.gl) → s2.ro = s.ro → (∀ x ∈ o.op.operands, s2.ev x = s.ev x) → opA P cfg fid call s2 o = some (s2.put o.dst v)) → (q = false → v = V.no) →
      ∀ s2 : St, Like ks s2 s → (usesGl s o.op = true → s2.gl = s.gl) → s2.ro = s.ro → (∀ x ∈ o.op.operands, s2.ev x = s.ev x) → wantedA s2 ops.toList o = wantedA s ops.toList o → Yield P cfg fid call ops s2 o v := by
    intro v h1 h0 s2 e1 e2 e3 e4 e5
    unfold Yield stepA
    rw [e5, hq]
    cases q with
    | true => exact h1 rfl s2 e1 e2 e3 e4
    | false => simp only [Option.bind_some]; rw [h0 rfl]
  cases q with
  | false =>
    simp only [Option.some.injEq] at h
    exact ⟨V.no, h.symm, lift V.no (fun e => by cases e) (fun _ => rfl)⟩
  | true =>
    simp only at h
    have plain : opA P cfg fid call s o = (calmA P s o.op).map (fun v => s.put o.dst v) → (∀ s2 : St, opA P cfg fid call s2 o = (calmA P s2 o.op).map (fun v => s2.put o.dst v)) → ∃ v, s1 = s.put o.dst v ∧ ∀ s2 : St, Like ks s2 s → (usesGl s o.op = true → s2.gl = s.gl) → s2.ro = s.ro → (∀ x ∈ o.op.operands, s2.ev x = s.ev x) → wantedA s2 ops.toList o = wantedA s ops.toList o → Yield P cfg fid call ops s2 o v := by
      intro h1 h2
      rw [h1, Option.map_eq_some_iff] at h
      obtain ⟨v, hv, rfl⟩ := h
      exact ⟨v, rfl, lift v (fun _ s2 e1 e2 e3 e4 => by rw [h2, calmA_congr e1 _ e2 hz e4, hv]; rfl) (fun e => by cases e)⟩
    obtain ⟨dst, op, type, pos, after, guard⟩ := o
    simp only at hc hz
    cases op with
    | call c =>
      obtain ⟨callee, args, ts⟩ := c
      cases callee with
      | invoke r m => simp [calmOp] at hc
      | builtin b =>
        cases b <;> simp only [calmOp, Bool.false_eq_true] at hc
        exact plain rfl (fun _ => rfl)
      | value g =>
        cases g with
        | func f =>
          simp only [calmOp] at hc
          simp only [opA, St.ev, Option.bind_some, Option.bind_eq_some_iff] at h
          obtain ⟨vs, hvs, h⟩ := h
          simp only [callA, Option.bind_eq_some_iff, hc, if_true] at h
          obtain ⟨cs, hcs, cs', hcs', r, hr, h⟩ := h
          split at h
          rotate_left
          · cases h
          rename_i hlen
          cases h
          refine ⟨r.1, rfl, lift r.1 (fun _ s2 e1 e2 e3 e4 => ?_) (fun e => by cases e)⟩
          have hev : s2.evs args.toList = some vs := by
            rw [evs_congr _ (fun x hx => e4 x (by simp [Op.operands, Call.operands]; right; simpa using hx)), hvs]
          simp only [opA, St.ev, Option.bind_some, hev, callA, hcs, hcs', hc, if_true, e2 rfl, hr, hlen]
        | _ => simp [calmOp] at hc
    | alloc e => simp [calmOp] at hc
    | box e x => simp [calmOp] at hc
    | store t x y => simp [calmOp] at hc
    | range t x => simp [calmOp] at hc
    | makeSlice t x y => simp [calmOp] at hc
    | next x q => simp [calmOp] at hc
    | _ => exact plain rfl (fun _ => rfl)

def stOpA (P : Program) (cfg : Cfg) (fid : Nat) (call : Caller) (ops : Array Oper) (i : Nat) (s : St) : Option St :=
  match ops[i]? with
  | none => some s
  | some o => stepA P cfg fid call ops.toList s o
def AAny (P : Program) (cfg : Cfg) (fid : Nat) (call : Caller) (ops : Array Oper) : Nat → Array Bool → St → St → Prop
  | 0, listed, s, s' => Region.ready .any ops listed = [] ∧ s = s'
  | n + 1, listed, s, s' => (Region.ready .any ops listed = [] → s = s') ∧ ∀ i ∈ Region.ready .any ops listed, ∃ s1, stOpA P cfg fid call ops i s = some s1 ∧ AAny P cfg fid call ops n (listed.setIfInBounds i true) s1 s'

theorem aany_sound {r : Option Nat} {m : Nat} {B : Nat} {cfg : Cfg} {fid : Nat} {call : Caller} (hc : Sound P ql call) {ops : Array Oper} {Q : Exit → Act → World → Prop} : ∀ (n : Nat) (listed : Array Bool) {Γ : Ctx} {s s' : St} {a : Act}, Inv Γ B s a → AAny P cfg fid call ops n listed s s' →
    (∀ Γ' a', Step ql B Γ Γ' → Inv Γ' B s' a' → Q .normal a' Γ'.w) → wpAnyIn (Fr r) m P .any ops Q n listed a Γ.w
  | 0, listed, Γ, s, s', a, hI, h, hQ => ⟨h.1, by obtain ⟨_, rfl⟩ := h; exact hQ Γ a (Step.refl _ _) hI⟩
  | n + 1, listed, Γ, s, s', a, hI, h, hQ => by
    refine ⟨fun h0 => ?_, fun i hi => ?_⟩
    · have := h.1 h0
      subst this
      exact hQ Γ a (Step.refl _ _) hI
    · obtain ⟨s1, h1, h2⟩ := h.2 i hi
      unfold stOpA at h1
      unfold wpOpIn
      split at h1
      · rename_i ho
        simp only [ho]
        cases h1
        exact aany_sound hc n _ hI h2 hQ
      · rename_i o ho
        simp only [ho]
        have := step_soundIn (P := P) (r := r) (n := m) cfg fid hc hI h1 (K := wpAnyIn (Fr r) m P .any ops Q n (listed.setIfInBounds i true)) (Q := Q) fun Γ' a' st hI' => aany_sound hc n _ hI' h2 fun Γ'' a'' st' hI'' => hQ Γ'' a'' (st.trans st') hI''
        split
        · rename_i hw; rw [if_pos hw] at this; exact this
        · rename_i hw; rw [if_neg hw] at this; exact this

theorem operands_look {ops : Array Oper} {o : Oper} {x : Operand} {k : Nat} (hx : x ∈ o.op.operands) (hk : x = .tmp k) : k ∈ o.looksAt ops := by
  subst hk
  simp only [Oper.looksAt, List.mem_append, List.mem_filterMap]
  left
  exact ⟨.tmp k, by simpa using hx, rfl⟩
theorem wantedA_put {ops : Array Oper} {o : Oper} {s : St} {d : Option Nat} {v : V} (h : ∀ k, d = some k → k ∉ o.looksAt ops) : wantedA (s.put d v) ops.toList o = wantedA s ops.toList o := by
  unfold wantedA
  cases hg : o.guard with
  | none => rfl
  | some g =>
    obtain ⟨j, want⟩ := g
    simp only
    cases hd : (ops.toList[j]?).bind (·.dst) with
    | none => rfl
    | some e =>
      simp only [Option.bind_some]
      rw [get_put_ne]
      rintro k hk rfl
      refine h k hk ?_
      simp only [Oper.looksAt, List.mem_append]
      right
      rw [hg]
      simp only
      rw [Array.getElem?_toList] at hd
      simp [hd]
theorem lazy_nil (s : St) (op : Op) : lazyOp [] s op = true := by
  unfold lazyOp
  split <;> try rfl
  · split <;> first | rfl | (split <;> rfl)
  · split <;> rfl
theorem yield_put {cfg : Cfg} {fid : Nat} {call : Caller} {ops : Array Oper} {s : St} {o : Oper} {v : V} (hc : calmOp cfg o.op = true) (h : Yield P cfg fid call ops s o v) (d : Option Nat) (u : V) (hl : ∀ k, d = some k → k ∉ o.looksAt ops) :
    ∃ v', s.put o.dst v = s.put o.dst v' ∧ Yield P cfg fid call ops (s.put d u) o v' := by
  obtain ⟨v', h1, h2⟩ := calmOp_step (lazy_nil _ _) hc h
  exact ⟨v', h1, h2 _ (Like.of _ (put_bx _ _ _)) (fun _ => put_gl _ _ _) (put_ro _ _ _) (fun x hx => ev_put (fun k hk e => hl k hk (operands_look hx e))) (wantedA_put hl)⟩
theorem yield_of_put {cfg : Cfg} {fid : Nat} {call : Caller} {ops : Array Oper} {s s1 : St} {o : Oper} (hc : calmOp cfg o.op = true) {d : Option Nat} {u : V} (h : stepA P cfg fid call ops.toList (s.put d u) o = some s1) (hl : ∀ k, d = some k → k ∉ o.looksAt ops) :
    ∃ v, s1 = (s.put d u).put o.dst v ∧ Yield P cfg fid call ops s o v := by
  obtain ⟨v, h1, h2⟩ := calmOp_step (lazy_nil _ _) hc h
  exact ⟨v, h1, h2 s (Like.of _ (put_bx _ _ _).symm) (fun _ => (put_gl _ _ _).symm) (put_ro _ _ _).symm (fun x hx => (ev_put (fun k hk e => hl k hk (operands_look hx e))).symm) (wantedA_put hl).symm⟩

/-- The value is told once for all: for a calm operation at a state, a value that every state gives that looks alike. -/
def Told (P : Program) (cfg : Cfg) (fid : Nat) (call : Caller) (ops : Array Oper) (ks : List Nat) (g : Bool) (s : St) (o : Oper) (v : V) : Prop :=
  ∀ s2 : St, Like ks s2 s → (g = true → s2.gl = s.gl) → s2.ro = s.ro → (∀ x ∈ o.op.operands, s2.ev x = s.ev x) → wantedA s2 ops.toList o = wantedA s ops.toList o → Yield P cfg fid call ops s2 o v
/-- Another state that looks alike. -/
theorem Told.move {cfg : Cfg} {fid : Nat} {call : Caller} {ops : Array Oper} {ks : List Nat} {g : Bool} {s s' : St} {o : Oper} {v : V} (h : Told P cfg fid call ops ks g s o v) (hb : Like ks s' s) (hg : g = true → s'.gl = s.gl) (hr : s'.ro = s.ro)
    (he : ∀ x ∈ o.op.operands, s'.ev x = s.ev x) (hw : wantedA s' ops.toList o = wantedA s ops.toList o) : Told P cfg fid call ops ks g s' o v := by
  intro s2 e1 e2 e3 e4 e5
  exact h s2 (e1.trans hb) (fun k => (e2 k).trans (hg k)) (e3.trans hr) (fun x hx => (e4 x hx).trans (he x hx)) (e5.trans hw)
theorem Told.put {cfg : Cfg} {fid : Nat} {call : Caller} {ops : Array Oper} {ks : List Nat} {g : Bool} {s : St} {o : Oper} {v : V} (h : Told P cfg fid call ops ks g s o v) (d : Option Nat) (u : V) (hl : ∀ k, d = some k → k ∉ o.looksAt ops) : Told P cfg fid call ops ks g (s.put d u) o v :=
  h.move (Like.of _ (put_bx _ _ _)) (fun _ => put_gl _ _ _) (put_ro _ _ _) (fun x hx => ev_put (fun k hk e => hl k hk (operands_look hx e))) (wantedA_put hl)
theorem Told.self {cfg : Cfg} {fid : Nat} {call : Caller} {ops : Array Oper} {ks : List Nat} {g : Bool} {s : St} {o : Oper} {v : V} (h : Told P cfg fid call ops ks g s o v) {i : Nat} (hi : ops[i]? = some o) : stOpA P cfg fid call ops i s = some (s.put o.dst v) := by
  unfold stOpA
  rw [hi]
  exact h s (Like.of _ rfl) (fun _ => rfl) rfl (fun _ _ => rfl) rfl
/-- Another state with the same slots. -/
theorem Told.same {cfg : Cfg} {fid : Nat} {call : Caller} {ops : Array Oper} {ks : List Nat} {g : Bool} {s s' : St} {o : Oper} {v : V} (h : Told P cfg fid call ops ks g s o v) (hs : s'.sl = s.sl) (hb : Like ks s' s) (hg : s'.gl = s.gl) (hr : s'.ro = s.ro) : Told P cfg fid call ops ks g s' o v :=
  h.move hb (fun _ => hg) hr (fun x _ => by cases x <;> simp [St.ev, St.get, hs]) (by simp only [wantedA, St.get, hs])
/-- What a call of a function comes to in every state that looks alike. -/
def Tolc (P : Program) (cfg : Cfg) (fid : Nat) (call : Caller) (ops : Array Oper) (s : St) (o : Oper) (v : V) (gl : List (List W)) : Prop :=
  ∀ s2 : St, s2.gl = s.gl → s2.ro = s.ro → (∀ x ∈ o.op.operands, s2.ev x = s.ev x) → wantedA s2 ops.toList o = wantedA s ops.toList o → stepA P cfg fid call ops.toList s2 o = some { (s2.put o.dst v) with gl := gl }
theorem call_tolc {cfg : Cfg} {fid : Nat} {call : Caller} {ops : Array Oper} {s s1 : St} {o : Oper} (hc : callOp o.op = true) (h : stepA P cfg fid call ops.toList s o = some s1) :
    ∃ v gl, s1 = { (s.put o.dst v) with gl := gl } ∧ Tolc P cfg fid call ops s o v gl := by
  unfold stepA at h
  rw [Option.bind_eq_some_iff] at h
  obtain ⟨q, hq, h⟩ := h
  cases q with
  | false =>
    simp only [Option.some.injEq] at h
    subst h
    refine ⟨V.no, s.gl, by cases o.dst <;> rfl, fun s2 e1 e2 e3 e4 => ?_⟩
    unfold stepA
    rw [e4, hq, ← e1]
    cases o.dst <;> rfl
  | true =>
    simp only at h
    obtain ⟨dst, op, type, pos, after, guard⟩ := o
    simp only at hc
    unfold callOp at hc
    split at hc
    · rename_i f args ts
      simp only [opA, St.ev, Option.bind_some, Option.bind_eq_some_iff, callA] at h
      obtain ⟨vs, hvs, cs, hcs, cs', hcs', h⟩ := h
      have hev : ∀ s2 : St, (∀ x ∈ (Op.call { callee := .value (.func f), args := args, argTypes := ts }).operands, s2.ev x = s.ev x) → s2.evs args.toList = some vs := fun s2 e => by
        rw [evs_congr _ (fun x hx => e x (by simp [Op.operands, Call.operands]; right; simpa using hx)), hvs]
      split at h
      · rename_i hro
        rw [Option.bind_eq_some_iff] at h
        obtain ⟨r, hr, h⟩ := h
        split at h
        · rename_i hlen
          cases h
          refine ⟨r.1, s.gl, by cases dst <;> rfl, fun s2 e1 e2 e3 e4 => ?_⟩
          unfold stepA
          rw [e4, hq]
          simp only [Option.bind_some, opA, St.ev, hev s2 e3, callA, hcs, hcs', hro, if_true, e1, hr, hlen]
          rw [← e1]
          cases dst <;> rfl
        · cases h
      · rename_i hro
        rw [Option.map_eq_some_iff] at h
        obtain ⟨r, hr, rfl⟩ := h
        refine ⟨r.1, r.2, rfl, fun s2 e1 e2 e3 e4 => ?_⟩
        unfold stepA
        rw [e4, hq]
        simp only [Option.bind_some, opA, St.ev, hev s2 e3, callA, hcs, hcs', hro, Bool.false_eq_true, if_false, e1, e2, hr, Option.map_some]
    · rename_i args ts
      simp only [opA] at h
      split at h
      · rename_i x y t r h1 h2
        simp only [Option.bind_eq_some_iff] at h
        obtain ⟨v, hv, v', hv', h⟩ := h
        obtain ⟨u, g, rfl, hg⟩ := copy_form h
        refine ⟨u, g, rfl, fun s2 e1 e2 e3 e4 => ?_⟩
        unfold stepA
        rw [e4, hq]
        simp only [Option.bind_some, opA, h1, h2]
        rw [e3 x (by simp [Op.operands, Call.operands]; rw [← Array.mem_toList_iff, h1]; simp), e3 y (by simp [Op.operands, Call.operands]; rw [← Array.mem_toList_iff, h1]; simp), hv, hv', Option.bind_some, Option.bind_some]
        exact hg s2 e1 e2
      · cases h
    · cases hc
theorem Tolc.move {cfg : Cfg} {fid : Nat} {call : Caller} {ops : Array Oper} {s s' : St} {o : Oper} {v : V} {gl : List (List W)} (h : Tolc P cfg fid call ops s o v gl) (hg : s'.gl = s.gl) (hr : s'.ro = s.ro) (he : ∀ x ∈ o.op.operands, s'.ev x = s.ev x) (hw : wantedA s' ops.toList o = wantedA s ops.toList o) : Tolc P cfg fid call ops s' o v gl :=
  fun s2 e1 e2 e3 e4 => h s2 (e1.trans hg) (e2.trans hr) (fun x hx => (e3 x hx).trans (he x hx)) (e4.trans hw)

theorem aany_first {cfg : Cfg} {fid : Nat} {call : Caller} {ops : Array Oper} {i : Nat} (Φ : St → Prop) (f : St → St) (hstep : ∀ s, Φ s → stOpA P cfg fid call ops i s = some (f s)) (R : Nat → Bool)
    (hR : ∀ (j : Nat) oj, ops[j]? = some oj → R j = true → ∃ e ∈ oj.after, Region.binds .any e = true ∧ (e.on = i ∨ R e.on = true)) : ∀ (n : Nat) (listed : Array Bool) (s s' : St), (∀ (j : Nat) oj, ops[j]? = some oj → R j = true → listed.getD j true = false) → (∀ j, R j = true → j < ops.size) →
    (∀ (j : Nat) oj, ops[j]? = some oj → j ≠ i → listed.getD j true = false → R j = false → ∀ s, Φ s → ∀ s1, stOpA P cfg fid call ops j (f s) = some s1 → ∃ sj, stOpA P cfg fid call ops j s = some sj ∧ Φ sj ∧ s1 = f sj) →
    i ∈ Region.ready .any ops listed → Φ s → AAny P cfg fid call ops n (listed.setIfInBounds i true) (f s) s' → AAny P cfg fid call ops (n + 1) listed s s' := by
  intro n
  induction n with
  | zero =>
    intro listed s s' _ _ _ hr hy H
    refine ⟨fun h => (by rw [h] at hr; cases hr), fun j hj => ?_⟩
    by_cases hji : j = i
    · subst hji; exact ⟨_, hstep s hy, H⟩
    · have := ready_mono hj hji
      rw [H.1] at this
      cases this
  | succ n ih =>
    intro listed s s' hun hlt hfree hr hy H
    refine ⟨fun h => (by rw [h] at hr; cases hr), fun j hj => ?_⟩
    by_cases hji : j = i
    · subst hji; exact ⟨_, hstep s hy, H⟩
    · obtain ⟨s1, h1, h2⟩ := H.2 j (ready_mono hj hji)
      obtain ⟨hjun, oj, hoj, hall⟩ := mem_ready.1 hj
      have apart : ∀ k, listed.getD k true = false → listed.getD k false = true → False := fun k h0 h1 => by
        rcases Nat.lt_or_ge k listed.size with h' | h'
        · simp [h'] at h0 h1; rw [h0] at h1; cases h1
        · simp [Array.getElem?_eq_none h'] at h1
      have hnot : R j = false := by
        cases hj0 : R j with
        | false => rfl
        | true =>
          obtain ⟨e, he, hb, h⟩ := hR j oj hoj hj0
          rcases h with h | h
          · have h1 := hall e he hb
            rw [h] at h1
            exact absurd h1 fun h1 => apart i (mem_ready.1 hr).1 h1
          · have hlt' := hlt _ h
            exact absurd (hall e he hb) fun h1 => apart e.on (hun e.on _ (Array.getElem?_eq_getElem hlt') h) h1
      obtain ⟨sj, k1, k2, rfl⟩ := hfree j oj hoj hji hjun hnot s hy s1 h1
      refine ⟨sj, k1, ih (listed.setIfInBounds j true) _ s' (fun k ok hk hRk => ?_) hlt (fun k ok hk hki hunk hno => ?_) (ready_mono hr (Ne.symm hji)) k2 ?_⟩
      · have hjk : j ≠ k := by
          rintro rfl
          rw [hnot] at hRk
          cases hRk
        rw [getD_set_ne true hjk]
        exact hun k ok hk hRk
      · refine hfree k ok hk hki ?_ hno
        by_cases hjk : j = k
        · subst hjk; exact hjun
        · rw [getD_set_ne true hjk] at hunk; exact hunk
      · rw [Array.setIfInBounds_comm _ _ hji]
        exact h2

/-- Calm operations that are apart. -/
theorem calm_swap {cfg : Cfg} {fid : Nat} {call : Caller} {ops : Array Oper} {s s1 : St} {oi oj : Oper} {v : V} {j : Nat} (hj : ops[j]? = some oj) (hap : oi.apart ops oj = true) (hcj : calmOp cfg oj.op = true)
    (h : stOpA P cfg fid call ops j (s.put oi.dst v) = some s1) : ∃ u, stOpA P cfg fid call ops j s = some (s.put oj.dst u) ∧ s1 = (s.put oj.dst u).put oi.dst v ∧ ∀ k, oj.dst = some k → k ∉ oi.looksAt ops := by
  obtain ⟨p1, p2, p3⟩ := Oper.apart_spec hap
  unfold stOpA at h
  rw [hj] at h
  obtain ⟨u, rfl, hyj⟩ := yield_of_put hcj h p1
  exact ⟨u, by unfold stOpA; rw [hj]; exact hyj, put_comm p2, p3⟩
theorem withgl_ev (s : St) (gl : List (List W)) (x : Operand) : ({ s with gl := gl } : St).ev x = s.ev x := by cases x <;> rfl
theorem withgl_wanted (s : St) (gl : List (List W)) (ops : List Oper) (o : Oper) : wantedA ({ s with gl := gl } : St) ops o = wantedA s ops o := rfl
/-- A call behind an operation that looks at nothing shared. -/
theorem call_swap {cfg : Cfg} {fid : Nat} {call : Caller} {ops : Array Oper} {s s1 : St} {oi oj : Oper} {v : V} {j : Nat} (hj : ops[j]? = some oj) (hap : oi.apart ops oj = true) (hc : callOp oj.op = true)
    (h : stOpA P cfg fid call ops j (s.put oi.dst v) = some s1) : ∃ u gl, stOpA P cfg fid call ops j s = some { (s.put oj.dst u) with gl := gl } ∧ s1 = ({ (s.put oj.dst u) with gl := gl } : St).put oi.dst v ∧ ∀ k, oj.dst = some k → k ∉ oi.looksAt ops := by
  obtain ⟨p1, p2, p3⟩ := Oper.apart_spec hap
  unfold stOpA at h
  rw [hj] at h
  obtain ⟨u, gl, rfl, ht⟩ := call_tolc hc h
  refine ⟨u, gl, ?_, ?_, p3⟩
  · unfold stOpA
    rw [hj]
    exact ht s (put_gl _ _ _).symm (put_ro _ _ _).symm (fun x hx => (ev_put (fun k hk e => p1 k hk (operands_look hx e))).symm) (wantedA_put p1).symm
  · have := put_comm (s := s) (v := v) (u := u) p2
    have e : ∀ (z : St) (d : Option Nat) (y : V), ({ z with gl := gl } : St).put d y = { (z.put d y) with gl := gl } := fun z d y => by cases d <;> rfl
    rw [e, this]
theorem look_upd_ne {α : Type} : ∀ (l : List (Nat × α)) (i j : Nat) (x : α), i ≠ j → look (upd l i x) j = look l j
  | [], i, j, x, h => by simp [upd, look, h]
  | (k, y) :: r, i, j, x, h => by
    simp only [upd]
    by_cases hk : k = i
    · subst hk
      rw [if_pos rfl]
      simp [look, h]
    · rw [if_neg hk]
      simp only [look]
      rw [look_upd_ne r i j x h]
/-- A store to a variable, with an operation that is apart. -/
theorem store_swap {cfg : Cfg} {fid : Nat} {call : Caller} {ops : Array Oper} {s s1 : St} {oi oj : Oper} {v : V} {j a : Nat} {k off : Nat} {t : TypeId} {x : Operand} (hj : ops[j]? = some oj) (hap : oi.apart ops oj = true)
    (hd : oj.dst = none) (ho : oj.op = .store t (.tmp a) x) (ha : s.get a = .c (.w (.box k off))) (h : stOpA P cfg fid call ops j (s.put oi.dst v) = some s1) :
    ∃ sj, stOpA P cfg fid call ops j s = some sj ∧ s1 = sj.put oi.dst v ∧ sj.sl = s.sl ∧ sj.gl = s.gl ∧ sj.ro = s.ro ∧ ∀ i, i ≠ k → look sj.bx i = look s.bx i := by
  obtain ⟨p1, p2, p3⟩ := Oper.apart_spec hap
  unfold stOpA at h ⊢
  rw [hj] at h ⊢
  simp only at h ⊢
  unfold stepA at h ⊢
  rw [wantedA_put p1] at h
  rw [Option.bind_eq_some_iff] at h
  obtain ⟨q, hq, h⟩ := h
  rw [hq]
  cases q with
  | false =>
    simp only [hd, Option.some.injEq, Option.bind_some] at h ⊢
    refine ⟨s, rfl, ?_, rfl, rfl, rfl, fun _ _ => rfl⟩
    rw [← h]; rfl
  | true =>
    simp only [Option.bind_some] at h ⊢
    have hev : ∀ y ∈ oj.op.operands, (s.put oi.dst v).ev y = s.ev y := fun y hy => ev_put (fun k hk e => p1 k hk (operands_look hy e))
    have e1 : (s.put oi.dst v).ev (.tmp a) = s.ev (.tmp a) := hev _ (by rw [ho]; simp [Op.operands])
    have e2 : (s.put oi.dst v).ev x = s.ev x := hev _ (by rw [ho]; simp [Op.operands])
    have e3 : s.ev (.tmp a) = some (.c (.w (.box k off))) := by simp only [St.ev, ha]
    obtain ⟨dst, op, type, pos, after, guard⟩ := oj
    simp only at hd ho
    subst hd ho
    simp only [opA, e1, e2, e3, Option.bind_some, Option.bind_eq_some_iff] at h ⊢
    obtain ⟨u, hu, c, hc, n, hn, h⟩ := h
    split at h
    · rename_i hl
      simp only [St.storeW, put_bx, Option.map_eq_some_iff, Option.bind_eq_some_iff] at h
      obtain ⟨s2, ⟨cs, hcs, cs', hcs', rfl⟩, rfl⟩ := h
      refine ⟨{ s with bx := upd s.bx k cs' }, ⟨u, hu, c, hc, n, hn, ?_⟩, ?_, rfl, rfl, rfl, fun i hi => look_upd_ne _ _ _ _ (Ne.symm hi)⟩
      · rw [if_pos hl]
        simp only [St.storeW, hcs, Option.bind_some, hcs', Option.map_some]
        rfl
      · cases hdd : oi.dst <;> rfl
    · cases h
end
end Go.Proofs.YtckonoejmjblfaaGreat.Ev
