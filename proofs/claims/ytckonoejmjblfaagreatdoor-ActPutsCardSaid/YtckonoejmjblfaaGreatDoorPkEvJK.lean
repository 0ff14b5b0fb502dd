/- Regions whose order is open; code; functions: what the evaluator says of a call is what the machine does. -/
import Derived.Test.YtckonoejmjblfaaGreatDoorPkEvTI
import Derived.Still
import Derived.RangeFuncRecord
import Derived.RangeFuncNested
set_option linter.unusedVariables false
set_option linter.unusedSimpArgs false
namespace Go.Proofs.YtckonoejmjblfaaGreatDoor.Ev
open Go Go.RowKit

section
variable {ql : Prop} {P : Program}

/-- Alike but for some variables. -/
def Like (ks : List Nat) (s2 s : St) : Prop := ∀ k, ks.contains k = false → look s2.bx k = look s.bx k
theorem Like.of (ks : List Nat) {s2 s : St} (h : s2.bx = s.bx) : Like ks s2 s := fun k _ => by rw [h]
theorem Like.trans {ks : List Nat} {a b c : St} (h : Like ks a b) (h' : Like ks b c) : Like ks a c := fun k hk => (h k hk).trans (h' k hk)
/-- Does it look at what is shared? -/
def usesGl (s : St) : Op → Bool
  | .load _ x => match s.ev x with
    | some (.c (.w (.glo _ _))) => true
    | _ => false
  | .call { callee := .value _, .. } => true
  | _ => false
theorem loadC_congr {ks : List Nat} {s s2 : St} (hb : Like ks s2 s) (t : TypeId) (v : V) (hg : ∀ k o, v = .c (.w (.glo k o)) → s2.gl = s.gl) (hv : ∀ k o, v = .c (.w (.box k o)) → ks.contains k = false) : s2.loadC P t v = s.loadC P t v := by
  unfold St.loadC
  split
  · rename_i x
    have : ∀ n, s2.cellsAt x n = s.cellsAt x n := by
      intro n
      unfold St.cellsAt
      cases x <;> try rfl
      · rename_i k o
        simp only [hb k (hv k o rfl)]
      · rename_i k o
        simp only [hg k o rfl]
    simp only [this]
  · rfl
theorem partsOf_congr {s s2 : St} : ∀ (l : List (Nat × Operand)), (∀ p ∈ l, s2.ev p.2 = s.ev p.2) → partsOf s2 l = partsOf s l
  | [], _ => rfl
  | (i, x) :: r, h => by
    simp only [partsOf]
    rw [h (i, x) (by simp), partsOf_congr r (fun p hp => h p (by simp [hp]))]
theorem evs_congr {s s2 : St} : ∀ (l : List Operand), (∀ x ∈ l, s2.ev x = s.ev x) → s2.evs l = s.evs l
  | [], _ => rfl
  | x :: r, h => by
    simp only [St.evs]
    rw [h x (by simp), evs_congr r (fun p hp => h p (by simp [hp]))]
theorem boundV_congr {s s2 : St} {o : Option Operand} (h : ∀ x, o = some x → s2.ev x = s.ev x) (d t : Nat) : boundV s2 o d t = boundV s o d t := by
  cases o with
  | none => rfl
  | some x => simp only [boundV]; rw [h x rfl]

theorem calmA_congr {ks : List Nat} {s s2 : St} (hb : Like ks s2 s) : ∀ op : Op, (usesGl s op = true → s2.gl = s.gl) → lazyOp ks s op = true → (∀ x ∈ op.operands, s2.ev x = s.ev x) → calmA P s2 op = calmA P s op := by
  intro op hg hz h
  cases op with
  | move x => exact h x (by simp [Op.operands])
  | assign x => exact h x (by simp [Op.operands])
  | pick c a b => simp only [calmA]; rw [h c (by simp [Op.operands]), h a (by simp [Op.operands]), h b (by simp [Op.operands])]
  | build t ps => simp only [calmA, buildA]; rw [partsOf_congr _ (fun p hp => h p.2 (by simp only [Op.operands]; simp; exact ⟨p.1, by simpa using hp⟩))]
  | buildSlice t n ps => simp only [calmA, buildSliceA]; rw [partsOf_congr _ (fun p hp => h p.2 (by simp only [Op.operands]; simp; exact ⟨p.1, by simpa using hp⟩))]
  | load t x =>
    simp only [calmA]
    rw [h x (by simp [Op.operands])]
    cases hx : s.ev x with
    | none => rfl
    | some v =>
      simp only [Option.bind_some]
      rw [loadC_congr hb t v (fun k o e => hg (by subst e; simp [usesGl, hx]))]
      rintro k o rfl
      simpa [lazyOp, hx] using hz
  | nilCheck x => simp only [calmA]; rw [h x (by simp [Op.operands])]
  | binOp o t x y u => simp only [calmA]; rw [h x (by simp [Op.operands]), h y (by simp [Op.operands])]
  | unOp o t x => simp only [calmA]; rw [h x (by simp [Op.operands])]
  | convert a b x =>
    simp only [calmA]
    rw [h x (by simp [Op.operands])]
    cases hx : s.ev x with
    | none => rfl
    | some v =>
      simp only [Option.bind_some]
      have hk : ∀ k o n, v = .c (.w (.bsl k o n)) → look s2.bx k = look s.bx k := by
        rintro k o n rfl
        exact hb k (by simpa [lazyOp, hx] using hz)
      unfold convA
      split <;> try rfl
      split <;> try rfl
      split <;> try rfl
      rw [hk _ _ _ rfl]
  | slice t x lo hi m =>
    cases m with
    | some m =>
      cases lo with
      | some l => rfl
      | none =>
        simp only [calmA]
        rw [h x (by simp [Op.operands])]
        congr 1
        funext v
        unfold emptyA
        split <;> try rfl
        rename_i hh mm _ _ e1 e2
        cases e2
        rw [h _ (by simp [Op.operands]), h m (by simp [Op.operands])]
    | none =>
      simp only [calmA]
      rw [h x (by simp [Op.operands])]
      have e1 := fun d t => boundV_congr (o := lo) (s := s) (s2 := s2) (fun y hy => h y (by simp [Op.operands, hy])) d t
      have e2 := fun d t => boundV_congr (o := hi) (s := s) (s2 := s2) (fun y hy => h y (by simp [Op.operands, hy])) d t
      simp only [sliceA, e1, e2]
  | fieldAddr t x j => simp only [calmA]; rw [h x (by simp [Op.operands])]
  | field t x j => simp only [calmA]; rw [h x (by simp [Op.operands])]
  | indexAddr t x y => simp only [calmA]; rw [h x (by simp [Op.operands]), h y (by simp [Op.operands])]
  | index t x y => simp only [calmA]; rw [h x (by simp [Op.operands]), h y (by simp [Op.operands])]
  | extract x j => simp only [calmA]; rw [h x (by simp [Op.operands])]
  | makeFunc f a b =>
    cases f <;> try rfl
    simp only [calmA]
    rw [evs_congr _ (fun x hx => h x (by simp [Op.operands]; right; simpa using hx))]
  | call c =>
    obtain ⟨callee, args, ts⟩ := c
    cases callee with
    | value f => rfl
    | invoke r m => rfl
    | builtin b =>
      cases b <;> try rfl
      · simp only [calmA]
        split
        · rename_i x t h1 h2
          rw [h x (by simp [Op.operands, Call.operands]; rw [← Array.mem_toList_iff, h1]; simp)]
        · rfl
      all_goals
        simp only [calmA]
        split
        · rename_i x y h1
          rw [h x (by simp [Op.operands, Call.operands]; rw [← Array.mem_toList_iff, h1]; simp), h y (by simp [Op.operands, Call.operands]; rw [← Array.mem_toList_iff, h1]; simp)]
        · rfl
  | _ => rfl

theorem get_put_ne {s : St} {d : Option Nat} {v : V} {t : Nat} (h : ∀ k, d = some k → k ≠ t) : (s.put d v).get t = s.get t := by
  cases d with
  | none => rfl
  | some k =>
    simp only [St.put, St.get, List.getD_eq_getElem?_getD]
    rw [List.getElem?_set_ne (h k rfl)]
theorem put_comm {s : St} {d e : Option Nat} {v u : V} (h : ∀ k, d = some k → e ≠ some k) : (s.put d v).put e u = (s.put e u).put d v := by
  cases d with
  | none => rfl
  | some k =>
    cases e with
    | none => rfl
    | some j =>
      have : k ≠ j := fun q => h k rfl (by rw [q])
      simp only [St.put]
      rw [List.set_comm _ _ this]
theorem ev_put {s : St} {d : Option Nat} {v : V} {x : Operand} (h : ∀ k, d = some k → x ≠ .tmp k) : (s.put d v).ev x = s.ev x := by
  cases x with
  | tmp t => simp only [St.ev]; rw [get_put_ne (fun k hk e => h k hk (by rw [e]))]
  | _ => rfl
theorem put_bx (s : St) (d : Option Nat) (v : V) : (s.put d v).bx = s.bx := by cases d <;> rfl
theorem put_gl (s : St) (d : Option Nat) (v : V) : (s.put d v).gl = s.gl := by cases d <;> rfl
theorem put_ro (s : St) (d : Option Nat) (v : V) : (s.put d v).ro = s.ro := by cases d <;> rfl

/-- A calm step's value hangs on what it looks at. -/
def Yield (P : Program) (cfg : Cfg) (fid : Nat) (call : Caller) (ops : Array Oper) (s : St) (o : Oper) (v : V) : Prop := stepA P cfg fid call ops.toList s o = some (s.put o.dst v)

theorem calmOp_step {cfg : Cfg} {fid : Nat} {call : Caller} {ops : Array Oper} {s s1 : St} {o : Oper} {ks : List Nat} (hz : lazyOp ks s o.op = true) (hc : calmOp cfg o.op = true) (h : stepA P cfg fid call ops.toList s o = some s1) :
    ∃ v, s1 = s.put o.dst v ∧ ∀ s2 : St, Like ks s2 s → (usesGl s o.op = true → s2.gl = s.gl) → s2.ro = s.ro → (∀ x ∈ o.op.operands, s2.ev x = s.ev x) → wantedA s2 ops.toList o = wantedA s ops.toList o → Yield P cfg fid call ops s2 o v := by
  unfold stepA at h
  rw [Option.bind_eq_some_iff] at h
  obtain ⟨q, hq, h⟩ := h
  have lift : ∀ (v : V), (q = true → ∀ s2 : St, Like ks s2 s → (usesGl s o.op = true → s2.gl = s.gl) → s2.ro = s.ro → (∀ x ∈ o.op.operands, s2.ev x = s.ev x) → opA P cfg fid call s2 o = some (s2.put o.dst v)) → (q = false → v = V.no) →
      ∀ s2 : St, Like ks s2 s → (usesGl s o.op = true → s2.gl = s.gl) → s2.ro = s.ro → (∀ x ∈ o.op.operands, s2.ev x = s.ev x) → wantedA s2 ops.toList o = wantedA s ops.toList o → Yield P cfg fid call ops s2 o v := by
    intro v h1 h0 s2 e1 e2 e3 e4 e5
    unfold Yield stepA
    rw [e5, hq]
    cases q with
    | true => exact h1 rfl s2 e1 e2 e3 e4
    | false => simp only [Option.bind_some]; rw [h0 rfl]
  cases q with
  | false =>
    simp only [Option.some.injEq] at h
    exact ⟨V.no, h.symm, lift V.no (fun e => by cases e) (fun _ => rfl)⟩
  | true =>
    simp only at h
    have plain : opA P cfg fid call s o = (calmA P s o.op).map (fun v => s.put o.dst v) → (∀ s2 : St, opA P cfg fid call s2 o = (calmA P s2 o.op).map (fun v => s2.put o.dst v)) → ∃ v, s1 = s.put o.dst v ∧ ∀ s2 : St, Like ks s2 s → (usesGl s o.op = true → s2.gl = s.gl) → s2.ro = s.ro → (∀ x ∈ o.op.operands, s2.ev x = s.ev x) → wantedA s2 ops.toList o = wantedA s ops.toList o → Yield P cfg fid call ops s2 o v := by
      intro h1 h2
      rw [h1, Option.map_eq_some_iff] at h
      obtain ⟨v, hv, rfl⟩ := h
      exact ⟨v, rfl, lift v (fun _ s2 e1 e2 e3 e4 => by rw [h2, calmA_congr e1 _ e2 hz e4, hv]; rfl) (fun e => by cases e)⟩
    obtain ⟨dst, op, type, pos, after, guard⟩ := o
    simp only at hc hz
    cases op with
    | call c =>
      obtain ⟨callee, args, ts⟩ := c
      cases callee with
      | invoke r m => simp [calmOp] at hc
      | builtin b =>
        cases b <;> simp only [calmOp, Bool.false_eq_true] at hc
        exact plain rfl (fun _ => rfl)
      | value g =>
        cases g with
        | func f =>
          simp only [calmOp] at hc
          simp only [opA, St.ev, Option.bind_some, Option.bind_eq_some_iff] at h
          obtain ⟨vs, hvs, h⟩ := h
          simp only [callA, Option.bind_eq_some_iff, hc, if_true] at h
          obtain ⟨cs, hcs, cs', hcs', r, hr, h⟩ := h
          split at h
          rotate_left
          · cases h
          rename_i hlen
          cases h
          refine ⟨r.1, rfl, lift r.1 (fun _ s2 e1 e2 e3 e4 => ?_) (fun e => by cases e)⟩
          have hev : s2.evs args.toList = some vs := by
            rw [evs_congr _ (fun x hx => e4 x (by simp [Op.operands, Call.operands]; right; simpa using hx)), hvs]
          simp only [opA, St.ev, Option.bind_some, hev, callA, hcs, hcs', hc, if_true, e2 rfl, hr, hlen]
        | _ => simp [calmOp] at hc
    | alloc e => simp [calmOp] at hc
    | box e x => simp [calmOp] at hc
    | store t x y => simp [calmOp] at hc
    | range t x => simp [calmOp] at hc
    | makeSlice t x y => simp [calmOp] at hc
    | next x q => simp [calmOp] at hc
    | _ => exact plain rfl (fun _ => rfl)

def stOpA (P : Program) (cfg : Cfg) (fid : Nat) (call : Caller) (ops : Array Oper) (i : Nat) (s : St) : Option St :=
  match ops[i]? with
  | none => some s
  | some o => stepA P cfg fid call ops.toList s o
def AAny (P : Program) (cfg : Cfg) (fid : Nat) (call : Caller) (ops : Array Oper) : Nat → Array Bool → St → St → Prop
  | 0, listed, s, s' => Region.ready .any ops listed = [] ∧ s = s'
  | n + 1, listed, s, s' => (Region.ready .any ops listed = [] → s = s') ∧ ∀ i ∈ Region.ready .any ops listed, ∃ s1, stOpA P cfg fid call ops i s = some s1 ∧ AAny P cfg fid call ops n (listed.setIfInBounds i true) s1 s'

theorem aany_sound {r : Option Nat} {m : Nat} {B : Nat} {cfg : Cfg} {fid : Nat} {call : Caller} (hc : Sound P ql call) {ops : Array Oper} {Q : Exit → Act → World → Prop} : ∀ (n : Nat) (listed : Array Bool) {Γ : Ctx} {s s' : St} {a : Act}, Inv Γ B s a → AAny P cfg fid call ops n listed s s' →
    (∀ Γ' a', Step ql B Γ Γ' → Inv Γ' B s' a' → Q .normal a' Γ'.w) → wpAnyIn (Fr r) m P .any ops Q n listed a Γ.w
  | 0, listed, Γ, s, s', a, hI, h, hQ => ⟨h.1, by obtain ⟨_, rfl⟩ := h; exact hQ Γ a (Step.refl _ _) hI⟩
  | n + 1, listed, Γ, s, s', a, hI, h, hQ => by
    refine ⟨fun h0 => ?_, fun i hi => ?_⟩
    · have := h.1 h0
      subst this
      exact hQ Γ a (Step.refl _ _) hI
    · obtain ⟨s1, h1, h2⟩ := h.2 i hi
      unfold stOpA at h1
      unfold wpOpIn
      split at h1
      · rename_i ho
        simp only [ho]
        cases h1
        exact aany_sound hc n _ hI h2 hQ
      · rename_i o ho
        simp only [ho]
        have := step_soundIn (P := P) (r := r) (n := m) cfg fid hc hI h1 (K := wpAnyIn (Fr r) m P .any ops Q n (listed.setIfInBounds i true)) (Q := Q) fun Γ' a' st hI' => aany_sound hc n _ hI' h2 fun Γ'' a'' st' hI'' => hQ Γ'' a'' (st.trans st') hI''
        split
        · rename_i hw; rw [if_pos hw] at this; exact this
        · rename_i hw; rw [if_neg hw] at this; exact this

theorem operands_look {ops : Array Oper} {o : Oper} {x : Operand} {k : Nat} (hx : x ∈ o.op.operands) (hk : x = .tmp k) : k ∈ o.looksAt ops := by
  subst hk
  simp only [Oper.looksAt, List.mem_append, List.mem_filterMap]
  left
  exact ⟨.tmp k, by simpa using hx, rfl⟩
theorem wantedA_put {ops : Array Oper} {o : Oper} {s : St} {d : Option Nat} {v : V} (h : ∀ k, d = some k → k ∉ o.looksAt ops) : wantedA (s.put d v) ops.toList o = wantedA s ops.toList o := by
  unfold wantedA
  cases hg : o.guard with
  | none => rfl
  | some g =>
    obtain ⟨j, want⟩ := g
    simp only
    cases hd : (ops.toList[j]?).bind (·.dst) with
    | none => rfl
    | some e =>
      simp only [Option.bind_some]
      rw [get_put_ne]
      rintro k hk rfl
      refine h k hk ?_
      simp only [Oper.looksAt, List.mem_append]
      right
      rw [hg]
      simp only
      rw [Array.getElem?_toList] at hd
      simp [hd]
theorem lazy_nil (s : St) (op : Op) : lazyOp [] s op = true := by
  unfold lazyOp
  split <;> try rfl
  · split <;> first | rfl | (split <;> rfl)
  · split <;> rfl
theorem yield_put {cfg : Cfg} {fid : Nat} {call : Caller} {ops : Array Oper} {s : St} {o : Oper} {v : V} (hc : calmOp cfg o.op = true) (h : Yield P cfg fid call ops s o v) (d : Option Nat) (u : V) (hl : ∀ k, d = some k → k ∉ o.looksAt ops) :
    ∃ v', s.put o.dst v = s.put o.dst v' ∧ Yield P cfg fid call ops (s.put d u) o v' := by
  obtain ⟨v', h1, h2⟩ := calmOp_step (lazy_nil _ _) hc h
  exact ⟨v', h1, h2 _ (Like.of _ (put_bx _ _ _)) (fun _ => put_gl _ _ _) (put_ro _ _ _) (fun x hx => ev_put (fun k hk e => hl k hk (operands_look hx e))) (wantedA_put hl)⟩
theorem yield_of_put {cfg : Cfg} {fid : Nat} {call : Caller} {ops : Array Oper} {s s1 : St} {o : Oper} (hc : calmOp cfg o.op = true) {d : Option Nat} {u : V} (h : stepA P cfg fid call ops.toList (s.put d u) o = some s1) (hl : ∀ k, d = some k → k ∉ o.looksAt ops) :
    ∃ v, s1 = (s.put d u).put o.dst v ∧ Yield P cfg fid call ops s o v := by
  obtain ⟨v, h1, h2⟩ := calmOp_step (lazy_nil _ _) hc h
  exact ⟨v, h1, h2 s (Like.of _ (put_bx _ _ _).symm) (fun _ => (put_gl _ _ _).symm) (put_ro _ _ _).symm (fun x hx => (ev_put (fun k hk e => hl k hk (operands_look hx e))).symm) (wantedA_put hl).symm⟩

/-! The same data. -/
mutual
theorem D.eqb_eq : ∀ {a b : D}, D.eqb a b = true → a = b
  | .int k n, .int k' n', h => by simp only [D.eqb, Bool.and_eq_true, decide_eq_true_eq] at h; rw [h.1, h.2]
  | .bool a, .bool b, h => by simpa [D.eqb] using h
  | .str a, .str b, h => by simpa [D.eqb] using h
  | .sl xs, .sl ys, h => by rw [D.eqb] at h; rw [eqbLL_eq h]
  | .int _ _, .str _, h => by simp [D.eqb] at h
  | .int _ _, .sl _, h => by simp [D.eqb] at h
  | .int _ _, .bool _, h => by simp [D.eqb] at h
  | .str _, .int _ _, h => by simp [D.eqb] at h
  | .str _, .sl _, h => by simp [D.eqb] at h
  | .str _, .bool _, h => by simp [D.eqb] at h
  | .sl _, .str _, h => by simp [D.eqb] at h
  | .sl _, .int _ _, h => by simp [D.eqb] at h
  | .sl _, .bool _, h => by simp [D.eqb] at h
  | .bool _, .str _, h => by simp [D.eqb] at h
  | .bool _, .int _ _, h => by simp [D.eqb] at h
  | .bool _, .sl _, h => by simp [D.eqb] at h
theorem eqbL_eq : ∀ {a b : List D}, eqbL a b = true → a = b
  | [], [], _ => rfl
  | x :: xs, y :: ys, h => by rw [eqbL, Bool.and_eq_true] at h; rw [D.eqb_eq h.1, eqbL_eq h.2]
  | [], _ :: _, h => by simp [eqbL] at h
  | _ :: _, [], h => by simp [eqbL] at h
theorem eqbLL_eq : ∀ {a b : List (List D)}, eqbLL a b = true → a = b
  | [], [], _ => rfl
  | x :: xs, y :: ys, h => by rw [eqbLL, Bool.and_eq_true] at h; rw [eqbL_eq h.1, eqbLL_eq h.2]
  | [], _ :: _, h => by simp [eqbLL] at h
  | _ :: _, [], h => by simp [eqbLL] at h
end
mutual
theorem D.eqb_refl : ∀ a : D, D.eqb a a = true
  | .int k n => by simp [D.eqb]
  | .bool n => by simp [D.eqb]
  | .str a => by simp [D.eqb]
  | .sl xs => by rw [D.eqb]; exact eqbLL_refl xs
theorem eqbL_refl : ∀ a : List D, eqbL a a = true
  | [] => rfl
  | x :: xs => by rw [eqbL, D.eqb_refl x, eqbL_refl xs]; rfl
theorem eqbLL_refl : ∀ a : List (List D), eqbLL a a = true
  | [] => rfl
  | x :: xs => by rw [eqbLL, eqbL_refl x, eqbLL_refl xs]; rfl
end
theorem eqbO_eq : ∀ {a b : List (Option D)}, eqbO a b = true → a = b
  | [], [], _ => rfl
  | some x :: xs, some y :: ys, h => by rw [eqbO, Bool.and_eq_true] at h; rw [D.eqb_eq h.1, eqbO_eq h.2]
  | none :: xs, none :: ys, h => by rw [eqbO] at h; rw [eqbO_eq h]
  | [], _ :: _, h => by simp [eqbO] at h
  | some _ :: _, [], h => by simp [eqbO] at h
  | none :: _, [], h => by simp [eqbO] at h
  | some _ :: _, none :: _, h => by simp [eqbO] at h
  | none :: _, some _ :: _, h => by simp [eqbO] at h
theorem eqbO_refl : ∀ a : List (Option D), eqbO a a = true
  | [] => rfl
  | some x :: xs => by rw [eqbO, D.eqb_refl x, eqbO_refl xs]; rfl
  | none :: xs => by rw [eqbO, eqbO_refl xs]
theorem W.eqb_eq {a b : W} (h : W.eqb a b = true) : a = b := by
  unfold W.eqb at h
  split at h
  · rw [D.eqb_eq h]
  · rw [eqbLL_eq h]
  · simp only [Bool.and_eq_true, beq_iff_eq] at h; rw [h.1, eqbLL_eq h.2]
  · simp only [Bool.and_eq_true, beq_iff_eq] at h; rw [h.1, h.2]
  · simp only [Bool.and_eq_true, beq_iff_eq] at h; rw [h.1, h.2]
  · rw [eqbL_eq h]
  · simp only [Bool.and_eq_true, beq_iff_eq] at h; rw [h.1, h.2]
  · simp only [Bool.and_eq_true, beq_iff_eq] at h; rw [h.1, h.2.1, h.2.2]
  · simp only [Bool.and_eq_true, beq_iff_eq] at h; rw [h.1, h.2.1, h.2.2.1, h.2.2.2.1, h.2.2.2.2]
  · simp only [Bool.and_eq_true, beq_iff_eq] at h; rw [eqbO_eq h.1, h.2.1, h.2.2]
  · rfl
  · rfl
  · cases h
theorem W.eqb_refl (a : W) : W.eqb a a = true := by
  cases a <;> simp [W.eqb, D.eqb_refl, eqbLL_refl, eqbL_refl, eqbO_refl]
theorem eqbWs_eq : ∀ {a b : List W}, eqbWs a b = true → a = b
  | [], [], _ => rfl
  | x :: xs, y :: ys, h => by rw [eqbWs, Bool.and_eq_true] at h; rw [W.eqb_eq h.1, eqbWs_eq h.2]
  | [], _ :: _, h => by simp [eqbWs] at h
  | _ :: _, [], h => by simp [eqbWs] at h
theorem eqbWs_refl : ∀ a : List W, eqbWs a a = true
  | [] => rfl
  | x :: xs => by rw [eqbWs, W.eqb_refl x, eqbWs_refl xs]; rfl
theorem eqbG_eq : ∀ {a b : Option (List W)}, eqbG a b = true → a = b
  | none, none, _ => rfl
  | some a, some b, h => by rw [eqbG] at h; rw [eqbWs_eq h]
  | none, some _, h => by simp [eqbG] at h
  | some _, none, h => by simp [eqbG] at h
theorem eqbG_refl : ∀ a : Option (List W), eqbG a a = true
  | none => rfl
  | some a => eqbWs_refl a
/-- Calls leave object o as it is. -/
def KeepsO (call : Caller) (o : Nat) : Prop := ∀ f args ro gl r, call f args ro gl = some r → r.2[o]? = gl[o]?
theorem keepC_some {call : Caller} {o f : Nat} {args : List C} {ro : Nat} {gl : List (List W)} {r : V × List (List W)} (h : keepC o call f args ro gl = some r) : call f args ro gl = some r ∧ r.2[o]? = gl[o]? := by
  unfold keepC at h
  rw [Option.bind_eq_some_iff] at h
  obtain ⟨q, hq, h⟩ := h
  split at h
  · rename_i he
    cases h
    exact ⟨hq, eqbG_eq he⟩
  · cases h
theorem holdC_some {s : St} {lo : List Nat} {call : Caller} {f : Nat} {args : List C} {ro : Nat} {gl : List (List W)} {r : V × List (List W)} (h : holdC s lo call f args ro gl = some r) : call f args ro gl = some r := by
  unfold holdC at h
  cases he : heldO s lo with
  | some o => rw [he] at h; exact (keepC_some h).1
  | none => rw [he] at h; exact h
theorem heldK_keeps {s : St} {lo : List Nat} {call : Caller} {o : Nat} (h : o + 400000 ∈ heldK s lo) : KeepsO (holdC s lo call) o := by
  unfold heldK at h
  unfold holdC
  cases he : heldO s lo with
  | some o' =>
    rw [he] at h
    simp only [List.mem_singleton] at h
    obtain rfl : o = o' := by omega
    exact fun f args ro gl r hr => (keepC_some hr).2
  | none => rw [he] at h; cases h

/-- What a value hangs on of what is shared. -/
structure Eqv (E : List (List W) → List (List W) → Prop) : Prop where
  refl : ∀ a, E a a
  trans : ∀ a b c, E a b → E b c → E a c
def EqIf (g : Bool) (a b : List (List W)) : Prop := g = true → a = b
def EqAt (o : Nat) (a b : List (List W)) : Prop := a[o]? = b[o]?
theorem EqIf.eqv (g : Bool) : Eqv (EqIf g) := ⟨fun _ _ => rfl, fun _ _ _ h k e => (h e).trans (k e)⟩
theorem EqAt.eqv (o : Nat) : Eqv (EqAt o) := ⟨fun _ => rfl, fun _ _ _ h k => Eq.trans h k⟩
/-- The value is told once for all: for a calm operation at a state, a value that every state gives that looks alike. -/
def Told (P : Program) (cfg : Cfg) (fid : Nat) (call : Caller) (ops : Array Oper) (ks : List Nat) (E : List (List W) → List (List W) → Prop) (s : St) (o : Oper) (v : V) : Prop :=
  ∀ s2 : St, Like ks s2 s → E s2.gl s.gl → s2.ro = s.ro → (∀ x ∈ o.op.operands, s2.ev x = s.ev x) → wantedA s2 ops.toList o = wantedA s ops.toList o → Yield P cfg fid call ops s2 o v
section
variable {E : List (List W) → List (List W) → Prop} (hE : Eqv E)
include hE
/-- Another state that looks alike. -/
theorem Told.move {cfg : Cfg} {fid : Nat} {call : Caller} {ops : Array Oper} {ks : List Nat} {s s' : St} {o : Oper} {v : V} (h : Told P cfg fid call ops ks E s o v) (hb : Like ks s' s) (hg : E s'.gl s.gl) (hr : s'.ro = s.ro)
    (he : ∀ x ∈ o.op.operands, s'.ev x = s.ev x) (hw : wantedA s' ops.toList o = wantedA s ops.toList o) : Told P cfg fid call ops ks E s' o v := by
  intro s2 e1 e2 e3 e4 e5
  exact h s2 (e1.trans hb) (hE.trans _ _ _ e2 hg) (e3.trans hr) (fun x hx => (e4 x hx).trans (he x hx)) (e5.trans hw)
theorem Told.put {cfg : Cfg} {fid : Nat} {call : Caller} {ops : Array Oper} {ks : List Nat} {s : St} {o : Oper} {v : V} (h : Told P cfg fid call ops ks E s o v) (d : Option Nat) (u : V) (hl : ∀ k, d = some k → k ∉ o.looksAt ops) : Told P cfg fid call ops ks E (s.put d u) o v :=
  Told.move hE h (Like.of _ (put_bx _ _ _)) (by rw [put_gl]; exact hE.refl _) (put_ro _ _ _) (fun x hx => ev_put (fun k hk e => hl k hk (operands_look hx e))) (wantedA_put hl)
theorem Told.self {cfg : Cfg} {fid : Nat} {call : Caller} {ops : Array Oper} {ks : List Nat} {s : St} {o : Oper} {v : V} (h : Told P cfg fid call ops ks E s o v) {i : Nat} (hi : ops[i]? = some o) : stOpA P cfg fid call ops i s = some (s.put o.dst v) := by
  unfold stOpA
  rw [hi]
  exact h s (Like.of _ rfl) (hE.refl _) rfl (fun _ _ => rfl) rfl
/-- Another state with the same slots. -/
theorem Told.same {cfg : Cfg} {fid : Nat} {call : Caller} {ops : Array Oper} {ks : List Nat} {s s' : St} {o : Oper} {v : V} (h : Told P cfg fid call ops ks E s o v) (hs : s'.sl = s.sl) (hb : Like ks s' s) (hg : s'.gl = s.gl) (hr : s'.ro = s.ro) : Told P cfg fid call ops ks E s' o v :=
  Told.move hE h hb (by rw [hg]; exact hE.refl _) hr (fun x _ => by cases x <;> simp [St.ev, St.get, hs]) (by simp only [wantedA, St.get, hs])
end
/-- A load from an object. -/
theorem loadAt_step {cfg : Cfg} {fid : Nat} {call : Caller} {ops : Array Oper} {s s1 : St} {o : Oper} {ks : List Nat} {t : TypeId} {a g off : Nat} (ho : o.op = .load t (.tmp a)) (hv : s.ev (.tmp a) = some (.c (.w (.glo g off)))) (h : stepA P cfg fid call ops.toList s o = some s1) :
    ∃ v, s1 = s.put o.dst v ∧ Told P cfg fid call ops ks (EqAt g) s o v := by
  unfold stepA at h
  rw [Option.bind_eq_some_iff] at h
  obtain ⟨q, hq, h⟩ := h
  cases q with
  | false =>
    simp only [Option.some.injEq] at h
    refine ⟨V.no, h.symm, fun s2 _ _ _ _ e5 => ?_⟩
    unfold Yield stepA
    rw [e5, hq]
    rfl
  | true =>
    have hop : ∀ s2 : St, opA P cfg fid call s2 o = (calmA P s2 o.op).map (fun v => s2.put o.dst v) := by
      intro s2
      obtain ⟨dst, op, type, pos, after, guard⟩ := o
      simp only at ho
      subst ho
      rfl
    simp only at h
    rw [hop, Option.map_eq_some_iff] at h
    obtain ⟨v, hv', rfl⟩ := h
    refine ⟨v, rfl, fun s2 _ e2 _ e4 e5 => ?_⟩
    unfold Yield stepA
    rw [e5, hq]
    show opA P cfg fid call s2 o = _
    rw [hop]
    have hc : calmA P s2 o.op = calmA P s o.op := by
      have h4 := e4 (.tmp a) (by rw [ho]; simp [Op.operands])
      rw [ho]
      simp only [calmA]
      rw [h4, hv]
      simp only [Option.bind_some, St.loadC, St.cellsAt]
      rw [show s2.gl[g]? = s.gl[g]? from e2]
    rw [hc, hv']
    rfl
theorem callF_keeps {cfg : Cfg} {fid : Nat} {call : Caller} {ops : List Oper} {s s1 : St} {oj : Oper} {g : Nat} (hk : KeepsO call g) (hc : callF oj.op = true) (h : stepA P cfg fid call ops s oj = some s1) : EqAt g s1.gl s.gl := by
  unfold stepA at h
  rw [Option.bind_eq_some_iff] at h
  obtain ⟨q, hq, h⟩ := h
  cases q with
  | false => simp only [Option.some.injEq] at h; rw [← h, put_gl]; exact Eq.refl _
  | true =>
    obtain ⟨dst, op, type, pos, after, guard⟩ := oj
    simp only at hc h
    unfold callF at hc
    split at hc
    · simp only [opA, St.ev, Option.bind_some, Option.bind_eq_some_iff] at h
      obtain ⟨vs, hvs, h⟩ := h
      simp only [callA, Option.bind_eq_some_iff] at h
      obtain ⟨cs, hcs, cs', hcs', h⟩ := h
      split at h
      · rw [Option.bind_eq_some_iff] at h
        obtain ⟨r, hr, h⟩ := h
        split at h
        · cases h; rw [put_gl]; exact Eq.refl _
        · cases h
      · rw [Option.map_eq_some_iff] at h
        obtain ⟨r, hr, rfl⟩ := h
        exact hk _ _ _ _ _ hr
    · cases hc
/-- What a call of a function comes to in every state that looks alike. -/
def Tolc (P : Program) (cfg : Cfg) (fid : Nat) (call : Caller) (ops : Array Oper) (s : St) (o : Oper) (v : V) (gl : List (List W)) : Prop :=
  ∀ s2 : St, s2.gl = s.gl → s2.ro = s.ro → (∀ x ∈ o.op.operands, s2.ev x = s.ev x) → wantedA s2 ops.toList o = wantedA s ops.toList o → stepA P cfg fid call ops.toList s2 o = some { (s2.put o.dst v) with gl := gl }
theorem call_tolc {cfg : Cfg} {fid : Nat} {call : Caller} {ops : Array Oper} {s s1 : St} {o : Oper} (hc : callOp o.op = true) (h : stepA P cfg fid call ops.toList s o = some s1) :
    ∃ v gl, s1 = { (s.put o.dst v) with gl := gl } ∧ Tolc P cfg fid call ops s o v gl := by
  unfold stepA at h
  rw [Option.bind_eq_some_iff] at h
  obtain ⟨q, hq, h⟩ := h
  cases q with
  | false =>
    simp only [Option.some.injEq] at h
    subst h
    refine ⟨V.no, s.gl, by cases o.dst <;> rfl, fun s2 e1 e2 e3 e4 => ?_⟩
    unfold stepA
    rw [e4, hq, ← e1]
    cases o.dst <;> rfl
  | true =>
    simp only at h
    obtain ⟨dst, op, type, pos, after, guard⟩ := o
    simp only at hc
    unfold callOp at hc
    split at hc
    · rename_i f args ts
      simp only [opA, St.ev, Option.bind_some, Option.bind_eq_some_iff, callA] at h
      obtain ⟨vs, hvs, cs, hcs, cs', hcs', h⟩ := h
      have hev : ∀ s2 : St, (∀ x ∈ (Op.call { callee := .value (.func f), args := args, argTypes := ts }).operands, s2.ev x = s.ev x) → s2.evs args.toList = some vs := fun s2 e => by
        rw [evs_congr _ (fun x hx => e x (by simp [Op.operands, Call.operands]; right; simpa using hx)), hvs]
      split at h
      · rename_i hro
        rw [Option.bind_eq_some_iff] at h
        obtain ⟨r, hr, h⟩ := h
        split at h
        · rename_i hlen
          cases h
          refine ⟨r.1, s.gl, by cases dst <;> rfl, fun s2 e1 e2 e3 e4 => ?_⟩
          unfold stepA
          rw [e4, hq]
          simp only [Option.bind_some, opA, St.ev, hev s2 e3, callA, hcs, hcs', hro, if_true, e1, hr, hlen]
          rw [← e1]
          cases dst <;> rfl
        · cases h
      · rename_i hro
        rw [Option.map_eq_some_iff] at h
        obtain ⟨r, hr, rfl⟩ := h
        refine ⟨r.1, r.2, rfl, fun s2 e1 e2 e3 e4 => ?_⟩
        unfold stepA
        rw [e4, hq]
        simp only [Option.bind_some, opA, St.ev, hev s2 e3, callA, hcs, hcs', hro, Bool.false_eq_true, if_false, e1, e2, hr, Option.map_some]
    · rename_i args ts
      simp only [opA] at h
      split at h
      · rename_i x y t r h1 h2
        simp only [Option.bind_eq_some_iff] at h
        obtain ⟨v, hv, v', hv', h⟩ := h
        obtain ⟨u, g, rfl, hg⟩ := copy_form h
        refine ⟨u, g, rfl, fun s2 e1 e2 e3 e4 => ?_⟩
        unfold stepA
        rw [e4, hq]
        simp only [Option.bind_some, opA, h1, h2]
        rw [e3 x (by simp [Op.operands, Call.operands]; rw [← Array.mem_toList_iff, h1]; simp), e3 y (by simp [Op.operands, Call.operands]; rw [← Array.mem_toList_iff, h1]; simp), hv, hv', Option.bind_some, Option.bind_some]
        exact hg s2 e1 e2
      · cases h
    · cases hc
theorem Tolc.move {cfg : Cfg} {fid : Nat} {call : Caller} {ops : Array Oper} {s s' : St} {o : Oper} {v : V} {gl : List (List W)} (h : Tolc P cfg fid call ops s o v gl) (hg : s'.gl = s.gl) (hr : s'.ro = s.ro) (he : ∀ x ∈ o.op.operands, s'.ev x = s.ev x) (hw : wantedA s' ops.toList o = wantedA s ops.toList o) : Tolc P cfg fid call ops s' o v gl :=
  fun s2 e1 e2 e3 e4 => h s2 (e1.trans hg) (e2.trans hr) (fun x hx => (e3 x hx).trans (he x hx)) (e4.trans hw)

theorem aany_first {cfg : Cfg} {fid : Nat} {call : Caller} {ops : Array Oper} {i : Nat} (Φ : St → Prop) (f : St → St) (hstep : ∀ s, Φ s → stOpA P cfg fid call ops i s = some (f s)) (R : Nat → Bool)
    (hR : ∀ (j : Nat) oj, ops[j]? = some oj → R j = true → ∃ e ∈ oj.after, Region.binds .any e = true ∧ (e.on = i ∨ R e.on = true)) : ∀ (n : Nat) (listed : Array Bool) (s s' : St), (∀ (j : Nat) oj, ops[j]? = some oj → R j = true → listed.getD j true = false) → (∀ j, R j = true → j < ops.size) →
    (∀ (j : Nat) oj, ops[j]? = some oj → j ≠ i → listed.getD j true = false → R j = false → ∀ s, Φ s → ∀ s1, stOpA P cfg fid call ops j (f s) = some s1 → ∃ sj, stOpA P cfg fid call ops j s = some sj ∧ Φ sj ∧ s1 = f sj) →
    i ∈ Region.ready .any ops listed → Φ s → AAny P cfg fid call ops n (listed.setIfInBounds i true) (f s) s' → AAny P cfg fid call ops (n + 1) listed s s' := by
  intro n
  induction n with
  | zero =>
    intro listed s s' _ _ _ hr hy H
    refine ⟨fun h => (by rw [h] at hr; cases hr), fun j hj => ?_⟩
    by_cases hji : j = i
    · subst hji; exact ⟨_, hstep s hy, H⟩
    · have := ready_mono hj hji
      rw [H.1] at this
      cases this
  | succ n ih =>
    intro listed s s' hun hlt hfree hr hy H
    refine ⟨fun h => (by rw [h] at hr; cases hr), fun j hj => ?_⟩
    by_cases hji : j = i
    · subst hji; exact ⟨_, hstep s hy, H⟩
    · obtain ⟨s1, h1, h2⟩ := H.2 j (ready_mono hj hji)
      obtain ⟨hjun, oj, hoj, hall⟩ := mem_ready.1 hj
      have apart : ∀ k, listed.getD k true = false → listed.getD k false = true → False := fun k h0 h1 => by
        rcases Nat.lt_or_ge k listed.size with h' | h'
        · simp [h'] at h0 h1; rw [h0] at h1; cases h1
        · simp [Array.getElem?_eq_none h'] at h1
      have hnot : R j = false := by
        cases hj0 : R j with
        | false => rfl
        | true =>
          obtain ⟨e, he, hb, h⟩ := hR j oj hoj hj0
          rcases h with h | h
          · have h1 := hall e he hb
            rw [h] at h1
            exact absurd h1 fun h1 => apart i (mem_ready.1 hr).1 h1
          · have hlt' := hlt _ h
            exact absurd (hall e he hb) fun h1 => apart e.on (hun e.on _ (Array.getElem?_eq_getElem hlt') h) h1
      obtain ⟨sj, k1, k2, rfl⟩ := hfree j oj hoj hji hjun hnot s hy s1 h1
      refine ⟨sj, k1, ih (listed.setIfInBounds j true) _ s' (fun k ok hk hRk => ?_) hlt (fun k ok hk hki hunk hno => ?_) (ready_mono hr (Ne.symm hji)) k2 ?_⟩
      · have hjk : j ≠ k := by
          rintro rfl
          rw [hnot] at hRk
          cases hRk
        rw [getD_set_ne true hjk]
        exact hun k ok hk hRk
      · refine hfree k ok hk hki ?_ hno
        by_cases hjk : j = k
        · subst hjk; exact hjun
        · rw [getD_set_ne true hjk] at hunk; exact hunk
      · rw [Array.setIfInBounds_comm _ _ hji]
        exact h2

/-- Calm operations that are apart. -/
theorem calm_swap {cfg : Cfg} {fid : Nat} {call : Caller} {ops : Array Oper} {s s1 : St} {oi oj : Oper} {v : V} {j : Nat} (hj : ops[j]? = some oj) (hap : oi.apart ops oj = true) (hcj : calmOp cfg oj.op = true)
    (h : stOpA P cfg fid call ops j (s.put oi.dst v) = some s1) : ∃ u, stOpA P cfg fid call ops j s = some (s.put oj.dst u) ∧ s1 = (s.put oj.dst u).put oi.dst v ∧ ∀ k, oj.dst = some k → k ∉ oi.looksAt ops := by
  obtain ⟨p1, p2, p3⟩ := Oper.apart_spec hap
  unfold stOpA at h
  rw [hj] at h
  obtain ⟨u, rfl, hyj⟩ := yield_of_put hcj h p1
  exact ⟨u, by unfold stOpA; rw [hj]; exact hyj, put_comm p2, p3⟩
theorem withgl_ev (s : St) (gl : List (List W)) (x : Operand) : ({ s with gl := gl } : St).ev x = s.ev x := by cases x <;> rfl
theorem withgl_wanted (s : St) (gl : List (List W)) (ops : List Oper) (o : Oper) : wantedA ({ s with gl := gl } : St) ops o = wantedA s ops o := rfl
/-- A call behind an operation that looks at nothing shared. -/
theorem call_swap {cfg : Cfg} {fid : Nat} {call : Caller} {ops : Array Oper} {s s1 : St} {oi oj : Oper} {v : V} {j : Nat} (hj : ops[j]? = some oj) (hap : oi.apart ops oj = true) (hc : callOp oj.op = true)
    (h : stOpA P cfg fid call ops j (s.put oi.dst v) = some s1) : ∃ u gl, stOpA P cfg fid call ops j s = some { (s.put oj.dst u) with gl := gl } ∧ s1 = ({ (s.put oj.dst u) with gl := gl } : St).put oi.dst v ∧ ∀ k, oj.dst = some k → k ∉ oi.looksAt ops := by
  obtain ⟨p1, p2, p3⟩ := Oper.apart_spec hap
  unfold stOpA at h
  rw [hj] at h
  obtain ⟨u, gl, rfl, ht⟩ := call_tolc hc h
  refine ⟨u, gl, ?_, ?_, p3⟩
  · unfold stOpA
    rw [hj]
    exact ht s (put_gl _ _ _).symm (put_ro _ _ _).symm (fun x hx => (ev_put (fun k hk e => p1 k hk (operands_look hx e))).symm) (wantedA_put p1).symm
  · have := put_comm (s := s) (v := v) (u := u) p2
    have e : ∀ (z : St) (d : Option Nat) (y : V), ({ z with gl := gl } : St).put d y = { (z.put d y) with gl := gl } := fun z d y => by cases d <;> rfl
    rw [e, this]
theorem look_upd_ne {α : Type} : ∀ (l : List (Nat × α)) (i j : Nat) (x : α), i ≠ j → look (upd l i x) j = look l j
  | [], i, j, x, h => by simp [upd, look, h]
  | (k, y) :: r, i, j, x, h => by
    simp only [upd]
    by_cases hk : k = i
    · subst hk
      rw [if_pos rfl]
      simp [look, h]
    · rw [if_neg hk]
      simp only [look]
      rw [look_upd_ne r i j x h]
/-- A store to a variable, with an operation that is apart. -/
theorem store_swap {cfg : Cfg} {fid : Nat} {call : Caller} {ops : Array Oper} {s s1 : St} {oi oj : Oper} {v : V} {j a : Nat} {k off : Nat} {t : TypeId} {x : Operand} (hj : ops[j]? = some oj) (hap : oi.apart ops oj = true)
    (hd : oj.dst = none) (ho : oj.op = .store t (.tmp a) x) (ha : s.get a = .c (.w (.box k off))) (h : stOpA P cfg fid call ops j (s.put oi.dst v) = some s1) :
    ∃ sj, stOpA P cfg fid call ops j s = some sj ∧ s1 = sj.put oi.dst v ∧ sj.sl = s.sl ∧ sj.gl = s.gl ∧ sj.ro = s.ro ∧ ∀ i, i ≠ k → look sj.bx i = look s.bx i := by
  obtain ⟨p1, p2, p3⟩ := Oper.apart_spec hap
  unfold stOpA at h ⊢
  rw [hj] at h ⊢
  simp only at h ⊢
  unfold stepA at h ⊢
  rw [wantedA_put p1] at h
  rw [Option.bind_eq_some_iff] at h
  obtain ⟨q, hq, h⟩ := h
  rw [hq]
  cases q with
  | false =>
    simp only [hd, Option.some.injEq, Option.bind_some] at h ⊢
    refine ⟨s, rfl, ?_, rfl, rfl, rfl, fun _ _ => rfl⟩
    rw [← h]; rfl
  | true =>
    simp only [Option.bind_some] at h ⊢
    have hev : ∀ y ∈ oj.op.operands, (s.put oi.dst v).ev y = s.ev y := fun y hy => ev_put (fun k hk e => p1 k hk (operands_look hy e))
    have e1 : (s.put oi.dst v).ev (.tmp a) = s.ev (.tmp a) := hev _ (by rw [ho]; simp [Op.operands])
    have e2 : (s.put oi.dst v).ev x = s.ev x := hev _ (by rw [ho]; simp [Op.operands])
    have e3 : s.ev (.tmp a) = some (.c (.w (.box k off))) := by simp only [St.ev, ha]
    obtain ⟨dst, op, type, pos, after, guard⟩ := oj
    simp only at hd ho
    subst hd ho
    simp only [opA, e1, e2, e3, Option.bind_some, Option.bind_eq_some_iff] at h ⊢
    obtain ⟨u, hu, c, hc, n, hn, h⟩ := h
    split at h
    · rename_i hl
      simp only [St.storeW, put_bx, Option.map_eq_some_iff, Option.bind_eq_some_iff] at h
      obtain ⟨s2, ⟨cs, hcs, cs', hcs', rfl⟩, rfl⟩ := h
      refine ⟨{ s with bx := upd s.bx k cs' }, ⟨u, hu, c, hc, n, hn, ?_⟩, ?_, rfl, rfl, rfl, fun i hi => look_upd_ne _ _ _ _ (Ne.symm hi)⟩
      · rw [if_pos hl]
        simp only [St.storeW, hcs, Option.bind_some, hcs', Option.map_some]
        rfl
      · cases hdd : oi.dst <;> rfl
    · cases h
end
end Go.Proofs.YtckonoejmjblfaaGreatDoor.Ev

/- A loop over a function: its rounds are calls. -/
set_option linter.unusedVariables false
set_option linter.unusedSimpArgs false
namespace Go.Proofs.YtckonoejmjblfaaGreatDoor.Ev
open Go Go.RowKit

/-- What was fixed then, in a later memory. -/
def Ctx.seen (Γ : Ctx) (M : World) : Ctx := { F := Γ.F, w := M, box := fun _ => 0, bl := fun _ => False, tok := fun _ => undef, len := fun _ => none, glb := fun _ => (0, 0), ng := 0, own := fun _ => none }
/-- What an iterator, a function that has captured the cells cs, hands to yield; m values at a time. -/
def IterC (P : Program) (f : Nat) (cs : List W) (m : Nat) (ys : List (List C)) : Prop :=
  Enters P f ∧ (∀ y ∈ ys, y.length = m) ∧ ∀ (Γ : Ctx) (g l : Nat) (vs : Array Value) (ty : TypeId), All2 (RW Γ) (vs.toList.take cs.length) cs → (∀ u ∈ vs.toList, u.oneCell' = true) → (∀ a, Γ.F a → a.block < Γ.w.heap.size) →
    ∀ (J : Nat → World → Prop) (Jx : World → Prop),
      (∀ k W, J k W → Γ.w.heap.size ≤ W.heap.size ∧ W.heap[g]? = some (.cells vs ty (0, 0)) ∧ ∀ a, Γ.F a → W.cell? a = Γ.w.cell? a) →
      (∀ k W W', J k W → Below W.heap.size W W' → W.drawn ≤ W'.drawn → J k W') → (∀ W W', Jx W → Below W.heap.size W W' → W.drawn ≤ W'.drawn → Jx W') →
      (∀ k y (args : List Value) W, ys[k]? = some y → All2 (RC (Γ.seen W)) args y → J k W → YieldAt (Fr none) 0 P l args.toArray W fun e W' => (e = .returned (.bool true) ∧ J (k + 1) W') ∨ (e = .returned (.bool false) ∧ Jx W')) →
      ∀ W, J 0 W → CallsIn (Fr none) 0 P f #[.func (.yield l) #[] #[], ptr g 0] W fun e W' => (∃ v, e = .returned v) ∧ (J ys.length W' ∨ Jx W')
def Base (P : Program) (cfg : Cfg) : Prop := P.follows .mixedOrders = true ∧ ∀ f cs m ys, cfg.iter f cs = some (m, ys) → IterC P f cs m ys

def exitOf : Ex → Exit
  | .normal => .normal
  | .exit id => .exit id
  | .ret => .ret
def codeOf : Ex → Option Code
  | .normal => none
  | .exit id => some (.exit id)
  | .ret => some .ret

section
variable {ql : Prop} {P : Program}
theorem Step.mono {B B' : Nat} {Γ Γ' : Ctx} (h : Step ql B' Γ Γ') (hB : B ≤ B') : Step ql B Γ Γ' :=
  ⟨h.os, h.tape, h.output, h.size, fun g hg => h.old g (by omega), h.F, fun a ha => by
    rcases h.Fnew a ha with ha | ha | ha
    · exact .inl ha
    · exact .inr (.inl (by omega))
    · exact .inr (.inr ha), h.ng, h.glb, fun g hg => h.own g (by omega), h.drawn⟩
theorem Step.to_calm {B : Nat} {Γ Γ' : Ctx} (h : Step ql B Γ Γ') : Step ql B Γ Γ'.calm := ⟨h.os, h.tape, h.output, h.size, h.old, h.F, h.Fnew, h.ng, h.glb, h.own, h.drawn⟩
theorem Step.up_calm {B : Nat} {Γ Γ' : Ctx} (h : Step ql B Γ.calm Γ') : Up Γ.calm Γ' := ⟨h.F, h.ng, h.glb, fun k hk => hk.elim, fun k n hk => by cases hk⟩

/-- The record of a loop over a function turns. -/
theorem Inv.setMark {Γ : Ctx} {B B0 : Nat} {s : St} {a : Act} (h : Inv Γ B s a) {l : Nat} (hd : a.defers = [] ∨ l < B) (hl : B0 ≤ l) (how : Γ.own l = some .mark) (o : Obj) : Step ql B0 Γ { Γ with w := Γ.w.putObj l o } ∧ Inv { Γ with w := Γ.w.putObj l o } B s a := by
  have hlt := h.ownlt l (by simp [how])
  have hother : ∀ b, b ≠ l → (Γ.w.putObj l o).heap[b]? = Γ.w.heap[b]? := fun b hb => World.putObj_heap_other hb
  have hs : (Γ.w.putObj l o).heap.size = Γ.w.heap.size := by simp [World.putObj]
  have u : Up Γ { Γ with w := Γ.w.putObj l o } := by
    refine ⟨fun ad had => ⟨had, cell_of_block (hother _ ?_)⟩, Nat.le_refl _, fun _ _ => rfl, fun k hk => ⟨hk, rfl⟩, fun k n hk => ⟨n, hk, .inl ⟨rfl, rfl⟩⟩⟩
    intro e
    rcases (h.fix ad had).2 with h1 | ⟨j, h1⟩
    · rw [e, how] at h1; cases h1
    · rw [e, how] at h1; cases h1
  have hne : ∀ b ow, Γ.own b = some ow → ow ≠ .mark → b ≠ l := by
    rintro b ow hb hk rfl
    rw [how] at hb; cases hb; exact hk rfl
  refine ⟨⟨rfl, rfl, rfl, Nat.le_of_eq hs.symm, fun g hg _ => hother _ (by omega), u.F, fun _ ha => .inl ha, Nat.le_refl _, fun _ _ => rfl, fun _ _ _ => rfl, fun _ => Nat.le_refl _⟩,
    ?_, h.size, fun i v x hv hx => (h.slots i v x hv hx).up u, h.len, h.bl, h.ng, fun j ds hj => ?_, fun j t hj => ?_, fun o ds hj hce => ?_, fun ad had => ?_, fun g hg => ?_, by show B ≤ (Γ.w.putObj l o).heap.size; rw [hs]; exact h.base, fun j r hj => ?_⟩
  · rcases hd with hd | hd
    · rw [hd]; exact Marks.nil
    · obtain ⟨ds, h1, h0, h2⟩ := h.defers
      refine ⟨ds, h1, h0, fun D hD => ?_⟩
      obtain ⟨e1, e2, e3⟩ := h2 D hD
      exact ⟨(hother D (by omega)).trans e1, e2, e3⟩
  · obtain ⟨vs, ty', e1, e2, e3, e4, e5⟩ := h.boxes j ds hj
    exact ⟨vs, ty', (hother _ (hne _ _ e4 (by simp))).trans e1, e2, e3.mono fun _ _ => RW.up u, e4, e5⟩
  · obtain ⟨b, cap, cur, e1, e2, e3⟩ := h.toks j t hj
    exact ⟨b, cap, cur, e1, (hother _ (hne _ _ e3.2.2.2.2.1 (by simp))).trans e2, e3⟩
  · obtain ⟨vs, ty', e1, e3, e4, e5, e6⟩ := h.globs o ds hj hce
    exact ⟨vs, ty', (hother _ (hne _ _ e4 (by simp))).trans e1, e3.mono fun _ _ => RW.up u, e4, e5, e6⟩
  · obtain ⟨e1, e2⟩ := h.fix ad had
    exact ⟨by show _ < (Γ.w.putObj l _).heap.size; rw [hs]; exact e1, e2⟩
  · show _ < (Γ.w.putObj l _).heap.size
    rw [hs]
    exact h.ownlt g hg
  · obtain ⟨e1, e2, e3, e4⟩ := h.its j r hj
    exact ⟨(hother _ (hne _ _ e3 (by simp))).trans e1, e2, e3, e4⟩

/-- A frame that holds nothing of its own. -/
abbrev bare (gl : List (List W)) (ro : Nat) : St := { sl := [V.un], bx := [], tk := [], gl, ro }
abbrev bareA : Act := { tmps := #[undef], defers := [] }
theorem Inv.leave {Γ : Ctx} {B N : Nat} {s : St} {a : Act} (h : Inv Γ B s a) (hN : N ≤ B) (ro : Nat) : Inv Γ.calm N (bare s.gl ro) bareA := by
  refine ⟨Marks.nil, rfl, fun i v x hv hx => ?_, fun _ => rfl, fun k => by simp [Ctx.calm, look], h.ng, fun k cs hk => by simp [look] at hk, fun k t hk => by simp [look] at hk, fun o cs ho hce => ?_, h.fix, h.ownlt, Nat.le_trans hN h.base, fun k p hk => by simp [look] at hk⟩
  · have hi : i = 0 := by
      have := (List.getElem?_eq_some_iff.1 hx).1
      simpa using this
    subst hi
    simp only [List.getElem?_cons_zero, Option.some.injEq] at hx
    subst hx
    trivial
  · obtain ⟨vs, ty, e1, e3, e4, e5, e6⟩ := h.globs o cs ho hce
    exact ⟨vs, ty, e1, ⟨e3.1, fun i u b hu hb => RW.calm (e3.2 i u b hu hb) (e6.1 b (List.mem_of_getElem? hb))⟩, e4, e5, e6⟩

theorem calmed_sound {Γ : Ctx} {v : Value} {x : V} (h : RV Γ v x) : RV Γ.calm v x.calmed := by
  unfold V.calmed
  split
  · split
    · exact RC.calm (x := .w _) h (by assumption)
    · trivial
  · split
    · exact RC.calm (x := .agg _) h (by assumption)
    · trivial
  · trivial
theorem setPs_sound {Γ : Ctx} : ∀ (ps : List Nat) (y : List C) (args : List Value) (tmps : Array Value) (sl : List V), All2 (RC Γ) args y → y.length = ps.length → tmps.size = sl.length → (∀ (i : Nat) v x, tmps[i]? = some v → sl[i]? = some x → RV Γ v x) →
    let t := (ps.zip args).foldl (fun t (p, v) => t.setIfInBounds p v) tmps
    t.size = (setPs ps y sl).length ∧ ∀ (i : Nat) v x, t[i]? = some v → (setPs ps y sl)[i]? = some x → RV Γ v x
  | [], y, args, tmps, sl, ha, hl, hs, h => by
    obtain rfl : y = [] := List.eq_nil_of_length_eq_zero (by simpa using hl)
    obtain rfl : args = [] := ha.nil_iff
    exact ⟨hs, h⟩
  | p :: ps, [], args, tmps, sl, ha, hl, hs, h => by simp at hl
  | p :: ps, c :: y, args, tmps, sl, ha, hl, hs, h => by
    obtain ⟨v, args, rfl, h1, h2⟩ := ha.uncons
    simp only [List.zip_cons_cons, List.foldl_cons, setPs]
    refine setPs_sound ps y args (tmps.setIfInBounds p v) (sl.set p (.c c)) h2 (by simpa using hl) (by simp [hs]) fun i u x hu hx => ?_
    by_cases hip : p = i
    · subst hip
      have ht : p < sl.length := by have := (List.getElem?_eq_some_iff.1 hx).1; simpa using this
      rw [List.getElem?_set_self ht, Option.some.injEq] at hx
      rw [Array.getElem?_setIfInBounds_self_of_lt (by rw [hs]; exact ht), Option.some.injEq] at hu
      subst hu
      subst hx
      exact h1
    · rw [List.getElem?_set_ne hip] at hx
      rw [Array.getElem?_setIfInBounds_ne hip] at hu
      exact h i u x hu hx

/-- The memory at the entry of a loop over a function. -/
def Ctx.enterR (Γ : Ctx) (o : Nat) (r : Loop) : Ctx :=
  { Γ.calm with w := (Γ.w.alloc (.deferred (some []))).alloc (.loop r), own := fun b => if b = Γ.w.heap.size ∨ b = Γ.w.heap.size + 1 ∨ b = Γ.glo o then some .mark else Γ.own b }
theorem Inv.enterR {Γ : Ctx} {B : Nat} {s : St} {a : Act} (h : Inv Γ B s a) {o : Nat} {cs : List W} (ho : s.gl[o]? = some cs) (hcs : cs ≠ []) (r : Loop) (ro : Nat) :
    Step ql Γ.w.heap.size Γ.calm (Γ.enterR o r) ∧ Inv (Γ.enterR o r) Γ.w.heap.size (bare (s.gl.set o []) ro) bareA := by
  obtain ⟨vs, ty, e1, e2, e3, e4, e5, e6⟩ := h.globs o cs ho hcs
  have hsz : ((Γ.w.alloc (.deferred (some []))).alloc (.loop r)).heap.size = Γ.w.heap.size + 2 := by simp [World.size_alloc]
  have hold : ∀ g, g < Γ.w.heap.size → ((Γ.w.alloc (.deferred (some []))).alloc (.loop r)).heap[g]? = Γ.w.heap[g]? := fun g hg => by
    rw [Below.heap_alloc _ _ g (by rw [World.size_alloc]; omega), Below.heap_alloc _ _ g hg]
  have hglt := h.ownlt (Γ.glo o) (by simp [e3])
  have hF : ∀ a, Γ.F a → Γ.F a ∧ ((Γ.w.alloc (.deferred (some []))).alloc (.loop r)).cell? a = Γ.w.cell? a := fun a ha => ⟨ha, cell_of_block (hold _ (h.fix a ha).1)⟩
  have hown : ∀ b ow, Γ.own b = some ow → ow ≠ .glo o → (Γ.enterR o r).own b = some ow := fun b ow hb hk => by
    have hlt := h.ownlt b (by rw [hb]; simp)
    simp only [Ctx.enterR]
    rw [if_neg]
    · exact hb
    · rintro (h1 | h1 | h1)
      · omega
      · omega
      · rw [h1, e3] at hb; cases hb; exact hk rfl
  refine ⟨⟨rfl, rfl, rfl, by show _ ≤ ((Γ.w.alloc _).alloc _).heap.size; rw [hsz]; exact Nat.le_add_right _ _, fun g hg _ => hold g hg, hF, fun _ ha => .inl ha, Nat.le_refl _, fun _ _ => rfl, fun g hg hno => ?_, fun _ => Nat.le_refl _⟩, ?_⟩
  · simp only [Ctx.enterR]
    rw [if_neg]
    · rfl
    · rintro (h1 | h1 | h1)
      · omega
      · omega
      · exact hno o (by rw [h1]; exact e3)
  · refine ⟨Marks.nil, rfl, fun i v x hv hx => ?_, fun _ => rfl, fun k => by simp [Ctx.enterR, Ctx.calm, look], by simp [Ctx.enterR, Ctx.calm, h.ng], fun k cs hk => by simp [look] at hk, fun k t hk => by simp [look] at hk, fun j ds hj hne => ?_, fun ad had => ?_, fun g hg => ?_, by show _ ≤ ((Γ.w.alloc _).alloc _).heap.size; rw [hsz]; exact Nat.le_add_right _ _, fun k p hk => by simp [look] at hk⟩
    · have hi : i = 0 := by
        have := (List.getElem?_eq_some_iff.1 hx).1
        simpa using this
      subst hi
      simp only [List.getElem?_cons_zero, Option.some.injEq] at hx
      subst hx
      trivial
    · have hjo : o ≠ j := by
        rintro rfl
        rw [List.getElem?_set_self (List.getElem?_eq_some_iff.1 ho).1] at hj
        cases hj
        exact hne rfl
      rw [List.getElem?_set_ne hjo] at hj
      obtain ⟨us, ty', f1, f2, f3, f4, f5, f6⟩ := h.globs j ds hj hne
      have hlt := h.ownlt _ (by rw [f3]; simp)
      refine ⟨us, ty', (hold _ hlt).trans f1, ⟨f2.1, fun i u b hu hb => ?_⟩, hown _ _ f3 (by simp [Ne.symm hjo]), f4, f5, f6⟩
      have u1 : Up Γ.calm (Γ.enterR o r) := ⟨hF, Nat.le_refl _, fun _ _ => rfl, fun k hk => hk.elim, fun k n hk => by cases hk⟩
      exact (RW.calm (f2.2 i u b hu hb) (f5 b (List.mem_of_getElem? hb))).up u1
    · obtain ⟨f1, f2⟩ := h.fix ad had
      refine ⟨by show _ < ((Γ.w.alloc _).alloc _).heap.size; rw [hsz]; omega, ?_⟩
      rcases f2 with f2 | ⟨k, f2⟩
      · refine .inl ?_
        simp only [Ctx.enterR]
        rw [if_neg]
        · exact f2
        · rintro (h1 | h1 | h1)
          · omega
          · omega
          · rw [h1, e3] at f2; cases f2
      · exact .inr ⟨k, hown _ _ f2 (by simp)⟩
    · show _ < ((Γ.w.alloc _).alloc _).heap.size
      rw [hsz]
      simp only [Ctx.enterR] at hg
      split at hg
      · rename_i h1
        rcases h1 with h1 | h1 | h1 <;> omega
      · have := h.ownlt g hg
        omega

theorem markD_inj {ds ds' : List Nat} (h : ds.map markD = ds'.map markD) : ds = ds' := by
  induction ds generalizing ds' with
  | nil => cases ds' with
    | nil => rfl
    | cons b r => simp at h
  | cons a r ih => cases ds' with
    | nil => simp at h
    | cons b r' =>
      simp only [List.map_cons, List.cons.injEq] at h
      obtain ⟨h1, h2⟩ := h
      have : a = b := by simpa [markD] using h1
      rw [this, ih h2]

/-- A loop over a function. -/
theorem range_sound {Γ : Ctx} {B : Nat} {s : St} {a : Act} (hI : Inv Γ B s a) {g : Operand} {ps : Array Tmp} {assign body : Code} {f o : Nat} {cs : List W} {ys : List (List C)} (hg : s.ev g = some (.c (.w (.fn f [o])))) (ho : s.gl[o]? = some cs) (hcs : cs ≠ [])
    (hit : IterC P f cs ps.size ys) {evA evB : St → Option (Ex × St)}
    (ha : ∀ {l B : Nat} {Γ : Ctx} {s : St} {r : Ex × St} {a : Act}, Inv Γ B s a → evA s = some r → ∀ {Q : Exit → Act → World → Prop}, (∀ Γ' a', Step ql B Γ Γ' → Inv Γ' B r.2 a' → Q (exitOf r.1) a' Γ'.w) → assign.wpIn (Fr (some l)) 0 P Q a Γ.w)
    (hb : ∀ {l B : Nat} {Γ : Ctx} {s : St} {r : Ex × St} {a : Act}, Inv Γ B s a → evB s = some r → ∀ {Q : Exit → Act → World → Prop}, (∀ Γ' a', Step ql B Γ Γ' → Inv Γ' B r.2 a' → Q (exitOf r.1) a' Γ'.w) → body.wpIn (Fr (some l)) 0 P Q a Γ.w)
    {e : Ex} {gl' : List (List W)} (h : rangeA (roundA evA evB ps.toList s) ys (s.gl.set o []) = some (e, gl'))
    {Q : Exit → Act → World → Prop} (hQ : ∀ Γ' a', Step ql B Γ Γ' → Inv Γ' B { s with gl := gl' } a' → Q (exitOf e) a' Γ'.w) : (Code.rangeFunc g ps assign body).wpIn (Fr none) 0 P Q a Γ.w := by
  obtain ⟨⟨fnf, hfn, hname, hbody⟩, hm, hit⟩ := hit
  obtain ⟨vs, ty, e1, e2, e3, e4, e5, e6⟩ := hI.globs o cs ho hcs
  obtain ⟨hf, hcap⟩ := ev_sound hI hg
  have hog : o < Γ.ng := hcap o (by simp)
  have hglt := hI.ownlt (Γ.glo o) (by simp [e3])
  refine wpIn_rangeFunc ?_
  intro fn _
  rw [show (Fr none).round = none from rfl]
  obtain ⟨rec, hrec⟩ : ∃ rec : LoopState → Option Code → Loop, rec = fun st pe => { state := st, pending := pe, fn, tmps := a.tmps, params := ps, assign, body, defers := Γ.w.heap.size } := ⟨_, rfl⟩
  obtain ⟨q1, q2⟩ := hI.enterR (ql := ql) ho hcs (rec .ready none) s.ro
  have hw1 : (Γ.enterR o (rec .ready none)).w = (Γ.w.alloc (.deferred (some []))).alloc (.loop (rec .ready none)) := rfl
  have hL1 : (Γ.enterR o (rec .ready none)).w.heap[Γ.w.heap.size + 1]? = some (.loop (rec .ready none)) := by
    rw [hw1]; have := World.alloc_heap_new (Γ.w.alloc (.deferred (some []))) (.loop (rec .ready none)); rwa [World.size_alloc] at this
  have hK1 : (Γ.enterR o (rec .ready none)).w.heap[Γ.w.heap.size]? = some (.deferred (some [])) := by
    rw [hw1]; exact (Below.heap_alloc _ _ _ (by simp)).trans (World.alloc_heap_new Γ.w _)
  have hG1 : (Γ.enterR o (rec .ready none)).w.heap[Γ.glo o]? = some (.cells vs ty (0, 0)) := by
    rw [hw1, Below.heap_alloc _ _ _ (by rw [World.size_alloc]; omega), Below.heap_alloc _ _ _ hglt]; exact e1
  refine ⟨Γ.w.heap.size + 1, [{ target := .collected Γ.w.heap.size, args := #[] }], (Γ.enterR o (rec .ready none)).w, { target := .fn (.func f) #[ptr (Γ.glo o) 0], args := #[.func (.yield (Γ.w.heap.size + 1)) #[] #[]] }, (Γ.enterR o (rec .ready none)).w, f,
    #[.func (.yield (Γ.w.heap.size + 1)) #[] #[], ptr (Γ.glo o) 0], (Γ.enterR o (rec .ready none)).w, ?_, ?_, fun _ _ => trivial, ?_, fun h => (by cases h), ?_⟩
  · rw [hw1, hrec]; exact run_enterLoop_outer _ _ _ _ _
  · simp only [resolve, hf]
    simp [go_sem]
  · simp only [invoke, callFunc, Sem.run_bind, run_program, Result.andThen_ok, hfn]
    rw [if_neg (by simp [hname]), if_neg (by simp [hbody])]
    simp
  · -- the iterator
    let J : Nat → World → Prop := fun k M => ∃ (Γ' : Ctx) (gl : List (List W)), Γ'.w = M ∧ Step ql Γ.w.heap.size Γ.calm Γ' ∧ Inv Γ' Γ.w.heap.size (bare gl s.ro) bareA ∧ rangeA (roundA evA evB ps.toList s) (ys.drop k) gl = some (e, gl') ∧
      M.heap[Γ.w.heap.size + 1]? = some (.loop (rec .ready none)) ∧ M.heap[Γ.w.heap.size]? = some (.deferred (some [])) ∧ M.heap[Γ.glo o]? = some (.cells vs ty (0, 0)) ∧
      Γ'.own Γ.w.heap.size = some .mark ∧ Γ'.own (Γ.w.heap.size + 1) = some .mark ∧ Γ'.own (Γ.glo o) = some .mark
    let Jx : World → Prop := fun M => ∃ (Γ' : Ctx) (c : Code), Γ'.w = M ∧ Step ql Γ.w.heap.size Γ.calm Γ' ∧ Inv Γ' Γ.w.heap.size (bare gl' s.ro) bareA ∧ codeOf e = some c ∧
      M.heap[Γ.w.heap.size + 1]? = some (.loop (rec .done (some c))) ∧ M.heap[Γ.w.heap.size]? = some (.deferred (some [])) ∧ Γ'.own Γ.w.heap.size = some .mark ∧ Γ'.own (Γ.w.heap.size + 1) = some .mark
    have later : ∀ {Γ' : Ctx} {gl : List (List W)} {M' : World}, Inv Γ' Γ.w.heap.size (bare gl s.ro) bareA → Below Γ'.w.heap.size Γ'.w M' → Γ'.w.drawn ≤ M'.drawn → Step ql Γ.w.heap.size Γ' { Γ' with w := M' } ∧ Inv { Γ' with w := M' } Γ.w.heap.size (bare gl s.ro) bareA := by
      intro Γ' gl M' h1 h2 h3
      have g : Grow Γ' { Γ' with w := M' } := ⟨rfl, rfl, rfl, rfl, rfl, rfl, rfl, h2.os, h2.tape, h2.output, h2.size, h2.block, fun _ h => h, fun _ h => .inl h, h3⟩
      exact ⟨h1.step_of_grow g, h1.grow g⟩
    have fin : ∀ {Γ3 : Ctx} {gl : List (List W)} (jump : Option Code), Step ql Γ.w.heap.size Γ.calm Γ3 → Inv Γ3 Γ.w.heap.size (bare gl s.ro) bareA → Γ3.own Γ.w.heap.size = some .mark → Γ3.own (Γ.w.heap.size + 1) = some .mark → Γ3.w.heap[Γ.w.heap.size]? = some (.deferred (some [])) →
        ∀ ob : Obj, ∃ Γ4 : Ctx, Γ4.w = Γ3.w.putObj (Γ.w.heap.size + 1) ob ∧ Step ql B Γ Γ4 ∧ Inv Γ4 B { s with gl := gl } { a with defers := { target := .collected Γ.w.heap.size, args := #[] } :: a.defers } := by
      intro Γ3 gl jump st3 hI3 o1 o2 hk ob
      obtain ⟨k1, k2⟩ := hI3.setMark (ql := ql) (B0 := Γ.w.heap.size) (.inl rfl) (Nat.le_succ _) o2 ob
      obtain ⟨r1, r2, _⟩ := (hI.dead o).back (v := undef) (x := V.un) (st3.trans k1) k2
      refine ⟨_, rfl, r1, ?_⟩
      obtain ⟨ds, d1, d2, d3⟩ := hI.defers
      obtain ⟨ds2, f1, f2, f3⟩ := r2.defers
      have hds : ds2 = ds := markD_inj (f1.symm.trans d1)
      subst hds
      refine { r2 with defers := ⟨Γ.w.heap.size :: ds2, by rw [List.map_cons, ← d1]; rfl, ?_, ?_⟩ }
      · rw [List.nodup_cons]
        refine ⟨fun hmem => ?_, d2⟩
        have := hI.ownlt _ (by rw [(d3 _ hmem).2.2]; simp)
        omega
      · intro D hD
        rcases List.mem_cons.1 hD with rfl | hD
        · exact ⟨(World.putObj_heap_other (by omega)).trans hk, hI.base, o1⟩
        · exact f3 D hD
    refine (hit Γ.calm (Γ.glo o) (Γ.w.heap.size + 1) vs ty ⟨e2.1, fun i v x hv hx => RW.calm (e2.2 i v x hv hx) (e5 x (List.mem_of_getElem? hx))⟩ e4 (fun ad had => (hI.fix ad had).1) J Jx ?_ ?_ ?_ ?_ _ ?_).mono ?_
    · rintro k _ ⟨Γ', gl, rfl, st, _, _, _, _, hv, _⟩
      exact ⟨st.size, hv, fun ad had => (st.F ad had).2⟩
    · rintro k _ M' ⟨Γ', gl, rfl, st, hI', hr, hl, hk, hv, o1, o2, o3⟩ hb' hdr
      obtain ⟨k1, k2⟩ := later hI' hb' hdr
      have lt : ∀ b, Γ'.own b = some .mark → M'.heap[b]? = Γ'.w.heap[b]? := fun b hb => hb'.block b (hI'.ownlt b (by rw [hb]; simp))
      exact ⟨_, gl, rfl, st.trans k1, k2, hr, (lt _ o2).trans hl, (lt _ o1).trans hk, (lt _ o3).trans hv, o1, o2, o3⟩
    · rintro _ M' ⟨Γ', c, rfl, st, hI', hc, hl, hk, o1, o2⟩ hb' hdr
      obtain ⟨k1, k2⟩ := later hI' hb' hdr
      have lt : ∀ b, Γ'.own b = some .mark → M'.heap[b]? = Γ'.w.heap[b]? := fun b hb => hb'.block b (hI'.ownlt b (by rw [hb]; simp))
      exact ⟨_, c, rfl, st.trans k1, k2, hc, (lt _ o2).trans hl, (lt _ o1).trans hk, o1, o2⟩
    · -- one round
      rintro k y args _ hy hargs ⟨Γ', gl, rfl, st, hI', hr, hl, hk, hv, o1, o2, o3⟩
      have hym := hm y (List.mem_of_getElem? hy)
      have hdrop : ys.drop k = y :: ys.drop (k + 1) := by
        obtain ⟨hlt, hyy⟩ := List.getElem?_eq_some_iff.1 hy
        rw [List.drop_eq_getElem_cons hlt, hyy]
      rw [hdrop] at hr
      simp only [rangeA, Option.bind_eq_some_iff] at hr
      obtain ⟨⟨e1', gl1⟩, hR, hrest⟩ := hr
      unfold roundA at hR
      simp only [Option.bind_eq_some_iff] at hR
      obtain ⟨⟨ea, s1⟩, hA, hR⟩ := hR
      cases ea with
      | exit id => cases hR
      | ret => cases hR
      | normal =>
      simp only [Option.map_eq_some_iff] at hR
      obtain ⟨⟨eb, s2⟩, hB, hR⟩ := hR
      simp only [Prod.mk.injEq] at hR
      obtain ⟨rfl, rfl⟩ := hR
      have hy' := run_yield (P := P) (args := args.toArray) hl (by rw [hrec]; simp [hargs.1, hym])
      rw [hrec] at hy'
      have hu := st.up_calm
      have hus : Up (Γ.calm.seen Γ'.w) Γ' := ⟨fun ad had => ⟨(st.F ad had).1, rfl⟩, Nat.zero_le _, fun o ho => absurd ho (Nat.not_lt_zero _), fun k hk => hk.elim, fun k n hk => by cases hk⟩
      have hI0 : Inv Γ' Γ'.w.heap.size { sl := setPs ps.toList y (s.sl.map V.calmed), bx := [], tk := [], gl := gl, ro := s.ro, it := [] } { tmps := (ps.zip args.toArray).foldl (fun tmps (t, a) => tmps.setIfInBounds t a) a.tmps, defers := [] } := by
        have hset := setPs_sound (Γ := Γ') ps.toList y args a.tmps (s.sl.map V.calmed) ⟨hargs.1, fun i v c hv hc => (hargs.2 i v c hv hc).up hus⟩ (by simpa using hym) (by simp [hI.size]) (fun i v x hv hx => by
          rw [List.getElem?_map, Option.map_eq_some_iff] at hx
          obtain ⟨x0, hx0, rfl⟩ := hx
          exact (calmed_sound (hI.slots i v x0 hv hx0)).up hu)
        have hfold : (ps.zip args.toArray).foldl (fun tmps (t, a) => tmps.setIfInBounds t a) a.tmps = (ps.toList.zip args).foldl (fun t (p, v) => t.setIfInBounds p v) a.tmps := by
          rw [← Array.foldl_toList]
          simp
        rw [hfold]
        exact ⟨Marks.nil, hset.1, hset.2, hI'.len, hI'.bl, hI'.ng, fun k cs hk => by simp [look] at hk, fun k t hk => by simp [look] at hk, hI'.globs, hI'.fix, hI'.ownlt, Nat.le_refl _, fun k p hk => by simp [look] at hk⟩
      refine ⟨fn, _, assign, body, hy', roundIn_of_wpIn trivial (ha hI0 hA fun Γ1 a1 st1 hI1 => ?_)⟩
      have hN : Γ.w.heap.size ≤ Γ'.w.heap.size := hI'.base
      have mk1 : ∀ b, Γ'.own b = some .mark → Γ1.w.heap[b]? = Γ'.w.heap[b]? ∧ Γ1.own b = some .mark := fun b hb => by
        have hlt := hI'.ownlt b (by rw [hb]; simp)
        have hno : ∀ o, Γ'.own b ≠ some (.glo o) := fun o => by rw [hb]; simp
        exact ⟨st1.old b hlt hno, (st1.own b hlt hno).trans hb⟩
      have hl1 := (mk1 _ o2).1.trans hl
      have hlt2 := hI'.ownlt _ (by rw [o2]; simp)
      refine ⟨_, run_beginRound hl1 (by rw [hrec]), ?_⟩
      obtain ⟨p1, p2⟩ := hI1.setMark (ql := ql) (B0 := Γ.w.heap.size) (.inr hlt2) (Nat.le_succ _) (mk1 _ o2).2 (.loop { rec .ready none with state := .busy })
      refine hb (Γ := { Γ1 with w := Γ1.w.putObj (Γ.w.heap.size + 1) (.loop { rec .ready none with state := .busy }) }) p2 hB fun Γ2 a2 st2 hI2 => ?_
      have mk2 : ∀ b, Γ'.own b = some .mark → Γ2.w.heap[b]? = (Γ1.w.putObj (Γ.w.heap.size + 1) (.loop { rec .ready none with state := .busy })).heap[b]? ∧ Γ2.own b = some .mark := fun b hb => by
        have hlt := hI'.ownlt b (by rw [hb]; simp)
        have hb1 : Γ1.own b = some .mark := (mk1 b hb).2
        have hno : ∀ o, Γ1.own b ≠ some (.glo o) := fun o => by rw [hb1]; simp
        exact ⟨st2.old b hlt hno, (st2.own b hlt hno).trans hb1⟩
      have hl2 : Γ2.w.heap[Γ.w.heap.size + 1]? = some (.loop { rec .ready none with state := .busy }) := by
        rw [(mk2 _ o2).1]
        exact World.putObj_heap_same (hI1.ownlt _ (by rw [(mk1 _ o2).2]; simp))
      have hk2 : Γ2.w.heap[Γ.w.heap.size]? = some (.deferred (some [])) := by
        rw [(mk2 _ o1).1, World.putObj_heap_other (by omega), (mk1 _ o1).1, hk]
      have hgN : Γ.glo o ≠ Γ.w.heap.size + 1 := by omega
      have hv2 : Γ2.w.heap[Γ.glo o]? = some (.cells vs ty (0, 0)) := by
        rw [(mk2 _ o3).1, World.putObj_heap_other hgN, (mk1 _ o3).1, hv]
      have st2' : Step ql Γ.w.heap.size Γ.calm Γ2 := ((st.trans (st1.mono hN)).trans p1).trans (st2.mono hN)
      -- the end of the round
      have endr : ∀ jump : Option Code, (Instr.endRound (Γ.w.heap.size + 1) jump).run P Γ2.w = .ok (.bool jump.isNone) (Γ2.w.putObj (Γ.w.heap.size + 1) (.loop (rec (if jump.isNone then .ready else .done) jump))) := fun jump => by
        have := run_endRound (P := P) jump hl2
        rw [hrec] at this ⊢
        exact this
      have close : ∀ ob : Obj, ∃ Γ3 : Ctx, Γ3.w = Γ2.w.putObj (Γ.w.heap.size + 1) ob ∧ Step ql Γ.w.heap.size Γ.calm Γ3 ∧ Inv Γ3 Γ.w.heap.size (bare s2.gl s.ro) bareA ∧ Γ3.own = Γ2.own ∧
          Γ3.w.heap[Γ.w.heap.size + 1]? = some ob ∧ Γ3.w.heap[Γ.w.heap.size]? = some (.deferred (some [])) ∧ Γ3.w.heap[Γ.glo o]? = some (.cells vs ty (0, 0)) := fun ob => by
        obtain ⟨t1, t2⟩ := hI2.setMark (ql := ql) (B0 := Γ.w.heap.size) (.inr hlt2) (Nat.le_succ _) (mk2 _ o2).2 ob
        exact ⟨_, rfl, (st2'.trans t1).to_calm, t2.leave hN s.ro, rfl, World.putObj_heap_same (hI2.ownlt _ (by rw [(mk2 _ o2).2]; simp)), (World.putObj_heap_other (by omega)).trans hk2, (World.putObj_heap_other hgN).trans hv2⟩
      cases eb with
      | normal =>
        obtain ⟨Γ3, w3, st3, hI3, ow3, hl3, hk3, hv3⟩ := close (.loop (rec .ready none))
        refine ⟨_, _, endr none, .inl ⟨rfl, Γ3, s2.gl, w3, st3, hI3, hrest, ?_, ?_, ?_, by rw [ow3]; exact (mk2 _ o1).2, by rw [ow3]; exact (mk2 _ o2).2, by rw [ow3]; exact (mk2 _ o3).2⟩⟩
        · rw [w3] at hl3; exact hl3
        · rw [w3] at hk3; exact hk3
        · rw [w3] at hv3; exact hv3
      | exit id =>
        simp only [Option.some.injEq, Prod.mk.injEq] at hrest
        obtain ⟨rfl, rfl⟩ := hrest
        obtain ⟨Γ3, w3, st3, hI3, ow3, hl3, hk3, hv3⟩ := close (.loop (rec .done (some (.exit id))))
        refine ⟨_, _, endr (some (.exit id)), .inr ⟨rfl, Γ3, .exit id, w3, st3, hI3, rfl, ?_, ?_, by rw [ow3]; exact (mk2 _ o1).2, by rw [ow3]; exact (mk2 _ o2).2⟩⟩
        · rw [w3] at hl3; exact hl3
        · rw [w3] at hk3; exact hk3
      | ret =>
        simp only [Option.some.injEq, Prod.mk.injEq] at hrest
        obtain ⟨rfl, rfl⟩ := hrest
        obtain ⟨Γ3, w3, st3, hI3, ow3, hl3, hk3, hv3⟩ := close (.loop (rec .done (some .ret)))
        refine ⟨_, _, endr (some .ret), .inr ⟨rfl, Γ3, .ret, w3, st3, hI3, rfl, ?_, ?_, by rw [ow3]; exact (mk2 _ o1).2, by rw [ow3]; exact (mk2 _ o2).2⟩⟩
        · rw [w3] at hl3; exact hl3
        · rw [w3] at hk3; exact hk3
    · exact ⟨_, _, rfl, q1, q2, h, hL1, hK1, hG1, by simp [Ctx.enterR], by simp [Ctx.enterR], by simp [Ctx.enterR]⟩
    · rintro e' _ ⟨⟨v, rfl⟩, hJ⟩
      rcases hJ with ⟨Γ3, gl, rfl, st3, hI3, hr, hl, hk, hv, o1, o2, o3⟩ | ⟨Γ3, c, rfl, st3, hI3, hc, hl, hk, o1, o2⟩
      · rw [List.drop_length] at hr
        simp only [rangeA, Option.some.injEq, Prod.mk.injEq] at hr
        obtain ⟨rfl, rfl⟩ := hr
        have hend := run_endLoop (P := P) hl (by rw [hrec]; simp)
        obtain ⟨Γ4, w4, st4, hI4⟩ := fin none st3 hI3 o1 o2 hk (.loop { rec .ready none with state := .exhausted })
        refine ⟨none, Γ4.w, by rw [w4]; rw [hrec] at hend ⊢; exact hend, ?_⟩
        exact hQ Γ4 _ st4 hI4
      · have hend := run_endLoop (P := P) hl (by rw [hrec]; simp)
        obtain ⟨Γ4, w4, st4, hI4⟩ := fin none st3 hI3 o1 o2 hk (.loop { rec .done (some c) with state := .exhausted })
        refine ⟨some c, Γ4.w, by rw [w4]; rw [hrec] at hend ⊢; exact hend, ?_⟩
        have := hQ Γ4 _ st4 hI4
        cases e with
        | normal => cases hc
        | exit id => cases hc; exact wpIn_exit this
        | ret => cases hc; exact wpIn_ret this
end
end Go.Proofs.YtckonoejmjblfaaGreatDoor.Ev

/- Code and functions: what the evaluator says of a call is what the machine does. -/
set_option linter.unusedVariables false
set_option linter.unusedSimpArgs false
namespace Go.Proofs.YtckonoejmjblfaaGreatDoor.Ev
open Go Go.RowKit

section
variable {ql : Prop} {P : Program}

theorem freeG_spec {ci : Oper → Bool} {q : Oper → Oper → Bool} {ops : Array Oper} {listed : Array Bool} {i : Nat} {R : Array Bool} {oi : Oper} (hi : ops[i]? = some oi) (h : freeG ci q ops listed i R = true) :
    ci oi = true ∧ (∀ (j : Nat) oj, ops[j]? = some oj → R.getD j false = true → ∃ e ∈ oj.after, Region.binds .any e = true ∧ (e.on = i ∨ R.getD e.on false = true)) ∧
    (∀ (j : Nat) oj, ops[j]? = some oj → R.getD j false = true → listed.getD j true = false) ∧
    ∀ (j : Nat) oj, ops[j]? = some oj → j ≠ i → listed.getD j true = false → R.getD j false = false → oi.apart ops oj = true ∧ q oi oj = true := by
  unfold freeG at h
  simp only [hi, Bool.and_eq_true, List.all_eq_true, List.mem_range] at h
  have hj' : ∀ (j : Nat) oj, ops[j]? = some oj → _ := fun j oj hj => by
    have hlt : j < ops.size := (Array.getElem?_eq_some_iff.1 hj).1
    have := h.2 j hlt
    rw [hj] at this
    exact this
  refine ⟨h.1, fun j oj hj hR => ?_, fun j oj hj hR => ?_, fun j oj hj hji hl hR => ?_⟩
  · have h1 := hj' j oj hj
    simp only [hR, if_true, Bool.and_eq_true] at h1
    have h2 := h1.2
    rw [Array.any_eq_true] at h2
    obtain ⟨k, hk, h2⟩ := h2
    simp only [Bool.and_eq_true, Bool.or_eq_true, beq_iff_eq] at h2
    exact ⟨_, Array.getElem_mem hk, h2.1, h2.2⟩
  · have h1 := hj' j oj hj
    simp only [hR, if_true, Bool.and_eq_true] at h1
    simpa using h1.1
  · have h1 := hj' j oj hj
    simp only [hR, Bool.false_eq_true, if_false, Bool.or_eq_true, Bool.and_eq_true, beq_iff_eq] at h1
    rcases h1 with (h1 | h1) | h1
    · exact absurd h1 hji
    · rw [hl] at h1; cases h1
    · exact h1
theorem behind_lt (ops : Array Oper) (i j : Nat) (h : (behind ops i).getD j false = true) : j < ops.size := by
  have hs : (behind ops i).size = ops.size := by
    unfold behind
    rw [← Array.foldl_toList]
    have : ∀ (l : List Oper) (R : Array Bool), (l.foldl (fun R o => R.push (o.after.any fun e => Region.binds .any e && (e.on == i || R.getD e.on false))) R).size = R.size + l.length := by
      intro l
      induction l with
      | nil => intro R; rfl
      | cons o l ih => intro R; rw [List.foldl_cons, ih, Array.size_push, List.length_cons]; omega
    rw [this]
    simp
  rcases Nat.lt_or_ge j (behind ops i).size with h' | h'
  · rw [← hs]; exact h'
  · rw [Array.getD_eq_getD_getElem?, Array.getElem?_eq_none h'] at h
    cases h

theorem lexA_sound {cfg : Cfg} {fid : Nat} {call : Caller} {ops : Array Oper} : ∀ (l : List Oper) (k : Nat) (listed : Array Bool) (s s' : St), (∀ j, l[j]? = ops[k + j]?) → lexA cfg ops l.length k listed = true →
    opsA P cfg fid call ops.toList l s = some s' → AAny P cfg fid call ops l.length listed s s'
  | [], k, listed, s, s', _, hB, h => by
    simp only [opsA, Option.some.injEq] at h
    exact ⟨by simpa [lexA] using hB, h⟩
  | o :: l, k, listed, s, s', hl, hB, h => by
    have h0 : ops[k]? = some o := by simpa using (hl 0).symm
    simp only [List.length_cons, lexA, Bool.and_eq_true, Bool.or_eq_true] at hB
    obtain ⟨hk, hB'⟩ := hB
    simp only [opsA, Option.bind_eq_some_iff] at h
    obtain ⟨s1, h1, h2⟩ := h
    have rest := lexA_sound l (k + 1) (listed.setIfInBounds k true) s1 s' (fun j => by have := hl (j + 1); simpa [Nat.add_assoc, Nat.add_comm 1 j] using this) hB' h2
    rcases hk with hk | hk
    · have hr : Region.ready .any ops listed = [k] := by simpa using hk
      refine ⟨fun e => (by rw [hr] at e; cases e), fun i hi => ?_⟩
      rw [hr] at hi
      have : i = k := by simpa using hi
      subst this
      exact ⟨s1, by unfold stOpA; rw [h0]; exact h1, rest⟩
    · obtain ⟨hr, hf⟩ := hk
      obtain ⟨hc, hR, hun, hfree⟩ := freeG_spec h0 hf
      obtain ⟨v, rfl, hy⟩ := calmOp_step (lazy_nil _ _) hc h1
      generalize usesGl s o.op = g at hy
      refine aany_first (fun s => Told P cfg fid call ops [] (EqIf g) s o v) (fun s => s.put o.dst v) (fun s hs => hs.self (EqIf.eqv g) h0) (fun j => (behind ops k).getD j false) hR l.length listed s s' hun (fun j hj => behind_lt ops k j hj) (fun j oj hj hji hun hno s hs s1 h1 => ?_) (by simpa using hr) hy rest
      obtain ⟨hap, hcj⟩ := hfree j oj hj hji hun hno
      obtain ⟨u, k1, k2, k3⟩ := calm_swap hj hap hcj h1
      exact ⟨_, k1, hs.put (EqIf.eqv g) _ _ k3, k2⟩

theorem storeOp_spec {o : Oper} (h : storeOp o = true) : o.dst = none ∧ ∃ t a x, o.op = .store t (.tmp a) x := by
  unfold storeOp at h
  split at h
  · exact ⟨rfl, _, _, _, rfl⟩
  · cases h
/-- The stores' addresses. -/
def StAddr (ops : Array Oper) (ks : List Nat) (s : St) : Prop := ∀ (j : Nat) oj t a x, ops[j]? = some oj → oj.op = .store t (.tmp a) x → ∃ k off, s.get a = .c (.w (.box k off)) ∧ k ∈ ks
theorem lazyKs_spec {s : St} : ∀ {l : List Oper} {ks : List Nat}, lazyKs s l = some ks → ∀ o ∈ l, ∀ t a x, o.op = .store t (.tmp a) x → ∃ k off, s.get a = .c (.w (.box k off)) ∧ k ∈ ks
  | [], ks, _, o, ho => by cases ho
  | o' :: l, ks, h, o, ho => by
    intro t a x hop
    simp only [lazyKs] at h
    rcases List.mem_cons.1 ho with rfl | ho
    · rw [hop] at h
      simp only at h
      split at h
      · rename_i k off hg
        rw [Option.map_eq_some_iff] at h
        obtain ⟨r, _, rfl⟩ := h
        exact ⟨k, off, hg, by simp⟩
      · cases h
    · split at h
      · split at h
        · rw [Option.map_eq_some_iff] at h
          obtain ⟨r, hr, rfl⟩ := h
          obtain ⟨k, off, h1, h2⟩ := lazyKs_spec hr o ho t a x hop
          exact ⟨k, off, h1, by simp [h2]⟩
        · cases h
      · exact lazyKs_spec h o ho t a x hop
theorem storesApart_spec {ops : Array Oper} (h : storesApart ops = true) {j i : Nat} {oj oi : Oper} {t : TypeId} {a : Nat} {x : Operand} (hj : ops[j]? = some oj) (hi : ops[i]? = some oi) (ho : oj.op = .store t (.tmp a) x) : oi.dst ≠ some a := by
  unfold storesApart at h
  rw [List.all_eq_true] at h
  have h1 := h oj (List.mem_of_getElem? (by rw [Array.getElem?_toList]; exact hj))
  rw [ho] at h1
  simp only [List.all_eq_true] at h1
  simpa using h1 oi (List.mem_of_getElem? (by rw [Array.getElem?_toList]; exact hi))
theorem StAddr.put {ops : Array Oper} {ks : List Nat} {s : St} (hs : storesApart ops = true) (h : StAddr ops ks s) {i : Nat} {oi : Oper} (hi : ops[i]? = some oi) (v : V) : StAddr ops ks (s.put oi.dst v) := by
  intro j oj t a x hj ho
  obtain ⟨k, off, h1, h2⟩ := h j oj t a x hj ho
  refine ⟨k, off, ?_, h2⟩
  rw [get_put_ne, h1]
  rintro d hd rfl
  exact storesApart_spec hs hj hi ho hd
theorem StAddr.step {ops : Array Oper} {ks : List Nat} {s s1 : St} (hs : storesApart ops = true) (h : StAddr ops ks s) {i : Nat} {oi : Oper} (hi : ops[i]? = some oi) (hsl : ∀ a, oi.dst ≠ some a → s1.get a = s.get a) : StAddr ops ks s1 := by
  intro j oj t a x hj ho
  obtain ⟨k, off, h1, h2⟩ := h j oj t a x hj ho
  exact ⟨k, off, by rw [hsl a (storesApart_spec hs hj hi ho), h1], h2⟩

theorem opA_sl {cfg : Cfg} {fid : Nat} {call : Caller} {s s' : St} {o : Oper} (h : opA P cfg fid call s o = some s') : ∃ v, s'.sl = (s.put o.dst v).sl := by
  have calm' : (calmA P s o.op).map (fun v => s.put o.dst v) = some s' → ∃ v, s'.sl = (s.put o.dst v).sl := by
    intro h
    rw [Option.map_eq_some_iff] at h
    obtain ⟨x, hx, rfl⟩ := h
    exact ⟨_, rfl⟩
  have newvar : ∀ (d : Nat) (cs : List W), (if cfg.esc fid d then (lodges cs).map fun cs => { (s.put o.dst (.c (.w (.glo s.gl.length 0)))) with gl := s.gl ++ [cs] }
        else match look s.bx d, look s.it d with | none, none => some { (s.put o.dst (.c (.w (.box d 0)))) with bx := upd s.bx d cs } | _, _ => none) = some s' → ∃ v, s'.sl = (s.put o.dst v).sl := by
    intro d cs h
    split at h
    · rw [Option.map_eq_some_iff] at h
      obtain ⟨cs', _, rfl⟩ := h
      exact ⟨_, rfl⟩
    · split at h
      · cases h; exact ⟨_, rfl⟩
      · cases h
  unfold opA at h
  split at h
  · simp only [Option.bind_eq_some_iff] at h
    obtain ⟨z, hz, d, hd, h⟩ := h
    exact newvar d _ h
  · simp only [Option.bind_eq_some_iff] at h
    obtain ⟨d, hd, v, hv, h⟩ := h
    split at h
    · cases h; exact ⟨_, rfl⟩
    · cases h
  · rw [Option.bind_eq_some_iff] at h
    obtain ⟨v, hv, h⟩ := h
    split at h
    · rw [Option.bind_eq_some_iff] at h
      obtain ⟨p, hp, h⟩ := h
      split at h
      · cases h; exact ⟨_, rfl⟩
      · cases h; exact ⟨_, rfl⟩
    · cases h
  · simp only [Option.bind_eq_some_iff] at h
    obtain ⟨v, hv, c, hcv, d, hd, h⟩ := h
    by_cases hf : cfg.frz fid d = true
    · rw [if_pos hf, Option.map_eq_some_iff] at h
      obtain ⟨ds, hds, rfl⟩ := h
      exact ⟨_, rfl⟩
    · rw [if_neg hf] at h
      exact newvar d _ h
  · rw [Option.bind_eq_some_iff] at h
    obtain ⟨v, hv, h⟩ := h
    split at h
    · simp only [Option.bind_eq_some_iff] at h
      obtain ⟨v', hv', c, hcv, n, hn, h⟩ := h
      split at h
      · rw [Option.map_eq_some_iff] at h
        obtain ⟨s2, hs2, rfl⟩ := h
        unfold St.storeW at hs2
        split at hs2
        · simp only [Option.bind_eq_some_iff, Option.map_eq_some_iff] at hs2
          obtain ⟨cs, hcs, cs', hp', rfl⟩ := hs2
          exact ⟨V.un, by cases o.dst <;> rfl⟩
        · split at hs2
          · cases hs2
          · simp only [Option.bind_eq_some_iff, Option.map_eq_some_iff] at hs2
            obtain ⟨cs, hcs, cs', hp', cs2, hp2, rfl⟩ := hs2
            exact ⟨V.un, by cases o.dst <;> rfl⟩
        · cases hs2
      · cases h
    · cases h
  · split at h
    · split at h
      · simp only [Option.bind_eq_some_iff] at h
        obtain ⟨v, hv, v', hv', d, hd, h⟩ := h
        rw [hd]
        exact (appendM_mild h).sl
      · cases h
    · cases h
  · simp only [Option.bind_eq_some_iff] at h
    obtain ⟨vl, hvl, il, hil, vc, hvc, ic, hic, h⟩ := h
    exact (make_mild h).sl
  · split at h
    · simp only [Option.bind_eq_some_iff] at h
      obtain ⟨v, hv, v', hv', h⟩ := h
      exact (copy_mild h).sl
    · cases h
  · split at h
    · simp only [Option.bind_eq_some_iff] at h
      obtain ⟨v, hv, h⟩ := h
      exact (clear_mild h).sl
    · cases h
  · rw [Option.bind_eq_some_iff] at h
    obtain ⟨v, hv, h⟩ := h
    split at h
    · simp only [Option.bind_eq_some_iff] at h
      obtain ⟨vs, hvs, h⟩ := h
      unfold callA at h
      simp only [Option.bind_eq_some_iff] at h
      obtain ⟨cs0, hcs0, cs, hcs, h⟩ := h
      split at h
      · rw [Option.bind_eq_some_iff] at h
        obtain ⟨r, hr, h⟩ := h
        split at h
        · cases h; exact ⟨_, rfl⟩
        · cases h
      · rw [Option.map_eq_some_iff] at h
        obtain ⟨r, hr, rfl⟩ := h
        exact ⟨_, rfl⟩
    · cases h
  · exact calm' h
theorem stepA_get {cfg : Cfg} {fid : Nat} {call : Caller} {ops : List Oper} {s s' : St} {o : Oper} (h : stepA P cfg fid call ops s o = some s') {a : Nat} (ha : o.dst ≠ some a) : s'.get a = s.get a := by
  have key : ∃ v, s'.sl = (s.put o.dst v).sl := by
    unfold stepA at h
    rw [Option.bind_eq_some_iff] at h
    obtain ⟨q, hq, h⟩ := h
    cases q with
    | true => exact opA_sl h
    | false => simp only [Option.some.injEq] at h; exact ⟨_, by rw [← h]⟩
  obtain ⟨v, hv⟩ := key
  have : s'.get a = (s.put o.dst v).get a := by simp only [St.get, hv]
  rw [this, get_put_ne]
  rintro k hk rfl
  exact ha hk

/-- The slots that such a region loads from. -/
def LdAddr (lo : List Nat) (s : St) : Prop := ∀ a ∈ lo, a < 100000 → ∃ k off, s.get a = .c (.w (.box k off))
theorem loadsOk_spec {s : St} {lo : List Nat} (h : loadsOk s lo = true) : LdAddr lo s := by
  intro a ha ha1
  have := (List.all_eq_true.1 h) a ha
  rw [decide_eq_false (by omega), Bool.false_or] at this
  split at this
  · exact ⟨_, _, by assumption⟩
  · cases this
theorem loadsApart_spec {lo : List Nat} {ops : Array Oper} (h : loadsApart lo ops = true) {i : Nat} {oi : Oper} (hi : ops[i]? = some oi) {a : Nat} (ha : a ∈ lo) : oi.dst ≠ some a := by
  unfold loadsApart at h
  rw [List.all_eq_true] at h
  have h1 := h oi (List.mem_of_getElem? (by rw [Array.getElem?_toList]; exact hi))
  simp only [List.all_eq_true] at h1
  simpa using h1 a ha
theorem LdAddr.step {lo : List Nat} {ops : Array Oper} {s s1 : St} (hs : loadsApart lo ops = true) (h : LdAddr lo s) {i : Nat} {oi : Oper} (hi : ops[i]? = some oi) (hsl : ∀ a, oi.dst ≠ some a → s1.get a = s.get a) : LdAddr lo s1 := by
  intro a ha ha1
  obtain ⟨k, off, h1⟩ := h a ha ha1
  exact ⟨k, off, by rw [hsl a (loadsApart_spec hs hi ha), h1]⟩
theorem glfree_uses {lo : List Nat} {s : St} (hL : LdAddr lo s) {op : Op} (h : glfree lo op = true) : usesGl s op = false := by
  unfold glfree at h
  rw [Bool.or_eq_true] at h
  rcases h with h | h
  · cases op with
    | call c =>
      obtain ⟨callee, args, ts⟩ := c
      cases callee <;> first | rfl | simp [pureOp] at h
    | load t x => simp [pureOp] at h
    | _ => rfl
  · split at h
    · rename_i t a
      rw [Bool.and_eq_true, decide_eq_true_eq] at h
      obtain ⟨k, off, e⟩ := hL a (by simpa using h.1) h.2
      simp [usesGl, St.ev, e]
    · cases h
theorem dynLd_uses {lo ks : List Nat} {s : St} (hk : ∀ x ∈ dynOf lo, x ∈ ks) {op : Op} (h : dynLd lo op = true) (hz : lazyOp ks s op = true) : usesGl s op = false := by
  unfold dynLd at h
  split at h
  · rename_i t a
    rw [Bool.and_eq_true, decide_eq_true_eq] at h
    have h2 : @LT.lt Nat _ a 100000 := h.2
    have hm : a + 100000 ∈ ks := hk _ (List.mem_filter.2 ⟨by simpa using h.1, by rw [Bool.and_eq_true, decide_eq_true_eq, decide_eq_true_eq]; exact ⟨by omega, by omega⟩⟩)
    unfold lazyOp at hz
    simp only at hz
    unfold usesGl
    simp only
    split at hz
    · rename_i e; rw [e]
    · rw [Bool.and_eq_true, Bool.not_eq_true', List.contains_eq_mem, decide_eq_false_iff_not] at hz
      exact absurd hm hz.1
    · rw [Bool.not_eq_true', List.contains_eq_mem, decide_eq_false_iff_not] at hz
      exact absurd hm hz
  · cases h
theorem heldLd_spec {lo ks : List Nat} {s : St} (hk : ∀ x ∈ dynOf lo, x ∈ ks) {op : Op} (h : heldLd lo op = true) (hz : lazyOp ks s op = true) : usesGl s op = false ∨ ∃ t a g off, op = .load t (.tmp a) ∧ s.ev (.tmp a) = some (.c (.w (.glo g off))) ∧ g + 400000 ∈ ks := by
  unfold heldLd at h
  split at h
  · rename_i t a
    rw [Bool.and_eq_true, decide_eq_true_eq] at h
    have h2 : @LT.lt Nat _ a 100000 := h.2
    have hm : a + 200000 ∈ ks := hk _ (List.mem_filter.2 ⟨by simpa using h.1, by rw [Bool.and_eq_true, decide_eq_true_eq, decide_eq_true_eq]; exact ⟨by omega, by omega⟩⟩)
    unfold lazyOp at hz
    simp only at hz
    split at hz
    · rename_i e; left; simp only [usesGl, e]
    · rename_i g off e
      rw [Bool.and_eq_true, Bool.or_eq_true, Bool.not_eq_true', List.contains_eq_mem, decide_eq_false_iff_not, Bool.not_eq_true', List.contains_eq_mem, decide_eq_false_iff_not, List.contains_eq_mem, decide_eq_true_eq] at hz
      exact .inr ⟨t, a, g, off, rfl, e, hz.2.resolve_left (fun x => x hm)⟩
    · rename_i e1 e2
      left
      unfold usesGl
      simp only
  · cases h
theorem callF_op {op : Op} (h : callF op = true) : callOp op = true := by
  unfold callF at h
  split at h
  · rfl
  · cases h
theorem get_put_ne' {s : St} {d : Option Nat} {v : V} {t : Nat} (h : d ≠ some t) : (s.put d v).get t = s.get t := get_put_ne (fun k hk e => h (by rw [hk, e]))
theorem lexL_sound {cfg : Cfg} {fid : Nat} {call : Caller} {ops : Array Oper} {ks lo : List Nat} (hsa : storesApart ops = true) (hla : loadsApart lo ops = true) (hdk : ∀ x ∈ dynOf lo, x ∈ ks) (hh : ∀ g, g + 400000 ∈ ks → KeepsO call g) : ∀ (l : List Oper) (k : Nat) (listed : Array Bool) (s s' : St), (∀ j, l[j]? = ops[k + j]?) → lexL cfg lo ops l.length k listed = true →
    opsL P cfg fid call ks ops.toList l s = some s' → StAddr ops ks s → LdAddr lo s → AAny P cfg fid call ops l.length listed s s'
  | [], k, listed, s, s', _, hB, h, _, _ => by
    simp only [opsL, Option.some.injEq] at h
    exact ⟨by simpa [lexL] using hB, h⟩
  | o :: l, k, listed, s, s', hl, hB, h, hA, hL => by
    have h0 : ops[k]? = some o := by simpa using (hl 0).symm
    simp only [List.length_cons, lexL, Bool.and_eq_true, Bool.or_eq_true] at hB
    obtain ⟨hk, hB'⟩ := hB
    simp only [opsL] at h
    split at h
    · rename_i hz
      rw [Option.bind_eq_some_iff] at h
      obtain ⟨s1, h1, h2⟩ := h
      have rest := lexL_sound hsa hla hdk hh l (k + 1) (listed.setIfInBounds k true) s1 s' (fun j => by have := hl (j + 1); simpa [Nat.add_assoc, Nat.add_comm 1 j] using this) hB' h2 (hA.step hsa h0 fun a ha => stepA_get h1 ha) (hL.step hla h0 fun a ha => stepA_get h1 ha)
      rcases hk with hk | hk
      · have hr : Region.ready .any ops listed = [k] := by simpa using hk
        refine ⟨fun e => (by rw [hr] at e; cases e), fun i hi => ?_⟩
        rw [hr] at hi
        have : i = k := by simpa using hi
        subst this
        exact ⟨s1, by unfold stOpA; rw [h0]; exact h1, rest⟩
      · obtain ⟨hr, hf⟩ := hk
        obtain ⟨hc, hR, hunR, hfree⟩ := freeG_spec h0 hf
        cases hcalm : calmOp cfg o.op with
        | true =>
          obtain ⟨v, E, rfl, hE, hy, hfr, hhe⟩ : ∃ v E, s1 = s.put o.dst v ∧ Eqv E ∧ Told P cfg fid call ops ks E s o v ∧ ((glfree lo o.op = true ∨ dynLd lo o.op = true) → ∀ a b, E a b) ∧ (heldLd lo o.op = true → ∀ (oj : Oper) (s2 s3 : St), callF oj.op = true → stepA P cfg fid call ops.toList s2 oj = some s3 → E s3.gl s2.gl) := by
            by_cases hu : usesGl s o.op = false
            · obtain ⟨v, e1, hy⟩ := calmOp_step hz hcalm h1
              refine ⟨v, EqIf (usesGl s o.op), e1, EqIf.eqv _, hy, fun _ a b e => ?_, fun _ oj s2 s3 _ _ e => ?_⟩
              · rw [hu] at e; cases e
              · rw [hu] at e; cases e
            · by_cases hx : heldLd lo o.op = true
              · rcases heldLd_spec hdk hx hz with h | ⟨t, a, g, off, e1, e2, e3⟩
                · exact absurd h hu
                · obtain ⟨v, e4, hy⟩ := loadAt_step (ks := ks) e1 e2 h1
                  refine ⟨v, EqAt g, e4, EqAt.eqv g, hy, fun hgf a b => ?_, fun _ oj s2 s3 hcj hst => callF_keeps (hh g e3) hcj hst⟩
                  exact absurd (hgf.elim (fun h => glfree_uses hL h) (fun h => dynLd_uses hdk h hz)) hu
              · obtain ⟨v, e1, hy⟩ := calmOp_step hz hcalm h1
                refine ⟨v, EqIf (usesGl s o.op), e1, EqIf.eqv _, hy, fun hgf a b e => ?_, fun h => absurd h hx⟩
                exact absurd (hgf.elim (fun h => glfree_uses hL h) (fun h => dynLd_uses hdk h hz)) hu
          refine aany_first (fun s => Told P cfg fid call ops ks E s o v ∧ StAddr ops ks s ∧ LdAddr lo s) (fun s => s.put o.dst v) (fun s hs => hs.1.self hE h0) (fun j => (behind ops k).getD j false) hR l.length listed s s' hunR (fun j hj => behind_lt ops k j hj) (fun j oj hj hji hun hno s2 hs s1 h1 => ?_) (by simpa using hr) ⟨hy, hA, hL⟩ rest
          obtain ⟨hap, hcj⟩ := hfree j oj hj hji hun hno
          simp only [pairOk, Bool.or_eq_true, Bool.and_eq_true] at hcj
          have viacall : callOp oj.op = true → (∀ (s2 s3 : St), stepA P cfg fid call ops.toList s2 oj = some s3 → E s3.gl s2.gl) → ∃ sj, stOpA P cfg fid call ops j s2 = some sj ∧ (Told P cfg fid call ops ks E sj o v ∧ StAddr ops ks sj ∧ LdAddr lo sj) ∧ s1 = sj.put o.dst v := fun hcj hEE => by
            obtain ⟨u, gl, k1, k2, k3⟩ := call_swap hj hap hcj h1
            have hget : ∀ a, oj.dst ≠ some a → ({ (s2.put oj.dst u) with gl := gl } : St).get a = s2.get a := fun a ha => get_put_ne' ha
            refine ⟨_, k1, ⟨Told.move hE hs.1 (Like.of _ (put_bx _ _ _)) ?_ (put_ro _ _ _) (fun x hx => ?_) ?_, hs.2.1.step hsa hj hget, hs.2.2.step hla hj hget⟩, k2⟩
            · unfold stOpA at k1
              rw [hj] at k1
              exact hEE _ _ k1
            · rw [withgl_ev]
              exact ev_put (fun k hk e => k3 k hk (operands_look hx e))
            · rw [withgl_wanted]
              exact wantedA_put k3
          rcases hcj with ((⟨_, hcj | hcj⟩ | ⟨⟨_, hgf⟩, hcj⟩) | ⟨⟨_, hcj⟩, _⟩) | ⟨⟨_, hhl⟩, hcj⟩
          · obtain ⟨u, k1, k2, k3⟩ := calm_swap hj hap hcj h1
            exact ⟨_, k1, ⟨hs.1.put hE _ _ k3, hs.2.1.put hsa hj u, hs.2.2.step hla hj fun a ha => get_put_ne' ha⟩, k2⟩
          · obtain ⟨hd, t, a, x, ho⟩ := storeOp_spec hcj
            obtain ⟨q, off, e1, e2⟩ := hs.2.1 j oj t a x hj ho
            obtain ⟨sj, k1, k2, k3, k4, k5, k6⟩ := store_swap hj hap hd ho e1 h1
            refine ⟨sj, k1, ⟨hs.1.same hE k3 (fun i hi => k6 i ?_) k4 k5, hs.2.1.step hsa hj fun a _ => by simp only [St.get, k3], hs.2.2.step hla hj fun a _ => by simp only [St.get, k3]⟩, k2⟩
            rintro rfl
            simp [e2] at hi
          · exact viacall hcj fun _ _ _ => hfr hgf _ _
          rotate_left
          · exact viacall (callF_op hcj) fun s2 s3 hst => hhe hhl oj s2 s3 hcj hst
          · obtain ⟨u, k1, k2, k3⟩ := calm_swap hj hap hcj h1
            exact ⟨_, k1, ⟨hs.1.put hE _ _ k3, hs.2.1.put hsa hj u, hs.2.2.step hla hj fun a ha => get_put_ne' ha⟩, k2⟩
        | false =>
          have hcall : callOp o.op = true := by simpa [hcalm] using hc
          obtain ⟨v, gl, rfl, hy⟩ := call_tolc hcall h1
          refine aany_first (fun s => Tolc P cfg fid call ops s o v gl ∧ StAddr ops ks s ∧ LdAddr lo s) (fun s => { (s.put o.dst v) with gl := gl }) (fun s hs => by unfold stOpA; rw [h0]; exact hs.1 s rfl rfl (fun _ _ => rfl) rfl) (fun j => (behind ops k).getD j false) hR l.length listed s s' hunR (fun j hj => behind_lt ops k j hj) (fun j oj hj hji hun hno s2 hs s1 h1 => ?_) (by simpa using hr) ⟨hy, hA, hL⟩ rest
          obtain ⟨hap, hcj⟩ := hfree j oj hj hji hun hno
          simp only [pairOk, hcalm, Bool.or_eq_true, Bool.and_eq_true, Bool.false_eq_true, false_and, false_or, or_false] at hcj
          obtain ⟨⟨_, hcj⟩, hgf⟩ := hcj
          obtain ⟨p1, p2, p3⟩ := Oper.apart_spec hap
          have hLF : LdAddr lo ({ (s2.put o.dst v) with gl := gl } : St) := hs.2.2.step hla h0 fun a ha => get_put_ne' ha
          unfold stOpA at h1
          rw [hj] at h1
          obtain ⟨u, rfl, hyj⟩ := calmOp_step (lazy_nil _ _) hcj h1
          have hu : Yield P cfg fid call ops s2 oj u := hyj s2 (Like.of _ (put_bx _ _ _).symm) (fun e => by rw [glfree_uses hLF hgf] at e; cases e) (put_ro _ _ _).symm (fun x hx => by rw [withgl_ev]; exact (ev_put (fun k hk e => p1 k hk (operands_look hx e))).symm) (by rw [withgl_wanted]; exact (wantedA_put p1).symm)
          refine ⟨s2.put oj.dst u, by unfold stOpA; rw [hj]; exact hu, ⟨hs.1.move (put_gl _ _ _) (put_ro _ _ _) (fun x hx => ev_put (fun k hk e => p3 k hk (operands_look hx e))) (wantedA_put p3), hs.2.1.put hsa hj u, hs.2.2.step hla hj fun a ha => get_put_ne' ha⟩, ?_⟩
          have := put_comm (s := s2) (v := v) (u := u) p2
          have e : ∀ (z : St) (d : Option Nat) (y : V), ({ z with gl := gl } : St).put d y = { (z.put d y) with gl := gl } := fun z d y => by cases d <;> rfl
          show ({ (s2.put o.dst v) with gl := gl } : St).put oj.dst u = { ((s2.put oj.dst u).put o.dst v) with gl := gl }
          rw [e, this]
    · cases h
theorem opsL_opsA {cfg : Cfg} {fid : Nat} {call : Caller} {ops : List Oper} {ks : List Nat} : ∀ (l : List Oper) (s s' : St), opsL P cfg fid call ks ops l s = some s' → opsA P cfg fid call ops l s = some s'
  | [], s, s', h => h
  | o :: l, s, s', h => by
    simp only [opsL] at h
    split at h
    · rw [Option.bind_eq_some_iff] at h
      obtain ⟨s1, h1, h2⟩ := h
      simp only [opsA, h1, Option.bind_some]
      exact opsL_opsA l s1 s' h2
    · cases h
/-- What a region comes to. -/
def regA (P : Program) (cfg : Cfg) (fid : Nat) (call : Caller) (id : Nat) (ops : Array Oper) (s : St) : Option St :=
  match litOf cfg fid ops.toList with
  | some (d, t, len, parts, r) => (buildG P s d t len parts).bind fun s => opsA P cfg fid call ops.toList r s
  | none => if cfg.lazy fid id then if loadsOk s (cfg.loads fid id) then (lazyKs s ops.toList).bind fun ks => if ks.all (fun k => decide (k < 400000)) then opsL P cfg fid (holdC s (cfg.loads fid id) call) (ks ++ dynOf (cfg.loads fid id) ++ heldK s (cfg.loads fid id)) ops.toList ops.toList s else none else none else opsA P cfg fid call ops.toList ops.toList s
theorem regA_opsA {cfg : Cfg} {fid : Nat} {call : Caller} {id : Nat} {ops : Array Oper} {s s' : St} (hl : litOf cfg fid ops.toList = none) (h : regA P cfg fid call id ops s = some s') : ∃ call' : Caller, (∀ f args ro gl r, call' f args ro gl = some r → call f args ro gl = some r) ∧ opsA P cfg fid call' ops.toList ops.toList s = some s' := by
  unfold regA at h
  rw [hl] at h
  simp only at h
  split at h
  · split at h
    · rw [Option.bind_eq_some_iff] at h
      obtain ⟨ks, _, h⟩ := h
      split at h
      · exact ⟨_, fun f args ro gl r hr => holdC_some hr, opsL_opsA _ _ _ h⟩
      · cases h
    · cases h
  · exact ⟨call, fun _ _ _ _ _ hr => hr, h⟩
theorem region_sound {rd : Option Nat} {n : Nat} {Γ : Ctx} {B : Nat} {cfg : Cfg} {fid : Nat} {call : Caller} (hm : P.follows .mixedOrders = true) (hc : Sound P ql call) {s s' : St} {a : Act} (hI : Inv Γ B s a) {id : Nat} {ops : Array Oper} {draw : Bool}
    (hd : codeOk cfg fid (.region id ops draw) = true) (h : regA P cfg fid call id ops s = some s') {Q : Exit → Act → World → Prop} (hQ : ∀ Γ' a', Step ql B Γ Γ' → Inv Γ' B s' a' → Q .normal a' Γ'.w) : (Code.region id ops draw).wpIn (Fr rd) n P Q a Γ.w := by
  cases draw with
  | false =>
    refine wpIn_region_list ?_
    cases hl : litOf cfg fid ops.toList with
    | none =>
      obtain ⟨call', hcc, h'⟩ := regA_opsA hl h
      exact ops_sound cfg fid (fun f args ro gl r hr => hc f args ro gl r (hcc f args ro gl r hr)) ops.toList hI h' hQ
    | some q =>
      obtain ⟨d, t, len, parts, r⟩ := q
      unfold regA at h
      rw [hl] at h
      simp only [Option.bind_eq_some_iff] at h
      obtain ⟨s1, h1, h2⟩ := h
      obtain ⟨L, hL⟩ : ∃ L, ops.toList = L := ⟨_, rfl⟩
      rw [hL] at hl ⊢
      cases L with
      | nil => cases hl
      | cons o l =>
        obtain rfl := litOf_rest hl
        exact wpListIn_step fun K hK => lit_sound hI hl h1 fun Γ' a' st hI' => hK _ _ (ops_sound cfg fid hc _ hI' h2 fun Γ'' a'' st' hI'' => hQ Γ'' a'' (st.trans st') hI'')
  | true =>
    simp only [codeOk, Bool.or_eq_true, beq_iff_eq, Bool.true_eq_false, false_or, Bool.and_eq_true, Option.isNone_iff_eq_none] at hd
    obtain ⟨hl, hd⟩ := hd
    unfold regA at h
    rw [hl] at h
    simp only at h
    refine wpIn_region_any hm ?_
    have g : Grow Γ { Γ with w := { Γ.w with drawn := Γ.w.drawn + 1 } } := ⟨rfl, rfl, rfl, rfl, rfl, rfl, rfl, rfl, rfl, rfl, Nat.le_refl _, fun _ _ => rfl, fun _ h => h, fun _ h => .inl h, Nat.le_succ _⟩
    obtain ⟨call', hcc, this⟩ : ∃ call' : Caller, (∀ f args ro gl r, call' f args ro gl = some r → call f args ro gl = some r) ∧ AAny P cfg fid call' ops ops.size (Array.replicate ops.size false) s s' := by
      split at h
      · rename_i hz
        rw [if_pos hz] at hd
        simp only [drawOkL, Bool.and_eq_true] at hd
        split at h
        · rename_i hlo
          rw [Option.bind_eq_some_iff] at h
          obtain ⟨ks, hks, h⟩ := h
          split at h
          rotate_left
          · cases h
          rename_i hks4
          have := lexL_sound (P := P) (cfg := cfg) (fid := fid) (call := holdC s (cfg.loads fid id) call) (ks := ks ++ dynOf (cfg.loads fid id) ++ heldK s (cfg.loads fid id)) (lo := cfg.loads fid id) hd.1.1 hd.1.2 (fun x hx => List.mem_append.2 (.inl (List.mem_append.2 (.inr hx)))) (fun g hg => by
              rcases List.mem_append.1 hg with hg | hg
              · rcases List.mem_append.1 hg with hg | hg
                · have := List.all_eq_true.1 hks4 _ hg
                  simp only [decide_eq_true_eq] at this
                  omega
                · have := (List.mem_filter.1 hg).2
                  simp only [Bool.and_eq_true, decide_eq_true_eq] at this
                  omega
              · exact heldK_keeps hg) ops.toList 0 (Array.replicate ops.size false) s s' (by simp) (by simpa using hd.2) h
            (fun j oj t a x hj ho => by
              obtain ⟨k, off, e1, e2⟩ := lazyKs_spec hks oj (List.mem_of_getElem? (by rw [Array.getElem?_toList]; exact hj)) t a x ho
              exact ⟨k, off, e1, by simp only [List.contains_eq_mem, List.mem_append, decide_eq_true_eq] at e2 ⊢; exact .inl (.inl e2)⟩) (loadsOk_spec hlo)
          rw [Array.length_toList] at this
          exact ⟨_, fun f args ro gl r hr => holdC_some hr, this⟩
        · cases h
      · rename_i hz
        rw [if_neg hz] at hd
        have := lexA_sound (P := P) (cfg := cfg) (fid := fid) (call := call) ops.toList 0 (Array.replicate ops.size false) s s' (by simp) (by simpa [drawOk] using hd) h
        rw [Array.length_toList] at this
        exact ⟨call, fun _ _ _ _ _ hr => hr, this⟩
    exact aany_sound (Γ := { Γ with w := { Γ.w with drawn := Γ.w.drawn + 1 } }) (fun f args ro gl r hr => hc f args ro gl r (hcc f args ro gl r hr)) _ _ (hI.grow g) this fun Γ' a' st hI' => hQ Γ' a' ((hI.step_of_grow g).trans st) hI'

/-! what is forgotten at a loop's head -/
theorem mem_contains {l : List Nat} {k : Nat} (h : l.contains k = true) : k ∈ l := by simpa using h
def Ctx.hav (Γ : Ctx) (keep : List Nat) : Ctx := { Γ with bl := fun k => Γ.bl k ∧ keep.contains k = true, len := fun k => if keep.contains k then Γ.len k else none }
theorem RW.hav {Γ : Ctx} {keep : List Nat} {v : Value} {x : W} (h : RW Γ v x) : RW (Γ.hav keep) v (x.hav keep) := by
  cases x <;> simp only [W.hav] <;> try exact h
  · rename_i k xs
    obtain ⟨h1, n, h2, h3, h4⟩ := h
    by_cases hk : keep.contains k = true
    · rw [if_pos hk]; exact ⟨h1, n, by simp only [Ctx.hav]; rw [if_pos hk]; exact h2, h3, h4⟩
    · rw [if_neg hk]; exact h1
  · rename_i k off
    by_cases hk : keep.contains k = true
    · rw [if_pos hk]; exact ⟨h.1, h.2, hk⟩
    · rw [if_neg hk]; trivial
  · rename_i k off n
    obtain ⟨ad, c, h1, h2, h4, h3⟩ := h
    by_cases hk : keep.contains k = true
    · rw [if_pos hk]; exact ⟨ad, c, h1, h2, h4, h3, hk⟩
    · rw [if_neg hk]; trivial
theorem RC.hav {Γ : Ctx} {keep : List Nat} {v : Value} {x : C} (h : RC Γ v x) : RC (Γ.hav keep) v (x.hav keep) := by
  cases x with
  | w x => exact RW.hav h
  | agg xs =>
    obtain ⟨cs, rfl, h1, h2⟩ := h
    exact ⟨cs, rfl, All2.map_right _ (h1.mono fun _ _ => RW.hav), h2⟩
theorem RV.hav {Γ : Ctx} {keep : List Nat} {v : Value} {x : V} (h : RV Γ v x) : RV (Γ.hav keep) v (x.hav keep) := by
  cases x with
  | c x => exact RC.hav h
  | tup xs => trivial
theorem look_filter {α : Type} (q : Nat → Bool) : ∀ (l : List (Nat × α)) (k : Nat), look (l.filter fun p => q p.1) k = if q k then look l k else none
  | [], k => by simp [look]
  | (i, x) :: r, k => by
    simp only [List.filter_cons]
    by_cases hi : q i = true
    · simp only [hi, if_true, look]
      rw [look_filter q r k]
      by_cases hik : i = k
      · subst hik; simp [hi]
      · simp [hik]
    · simp only [hi, look]
      rw [if_neg (by simp), look_filter q r k]
      by_cases hik : i = k
      · subst hik; simp [hi]
      · simp [hik]
theorem look_map {α β : Type} (f : α → β) : ∀ (l : List (Nat × α)) (k : Nat), look (l.map fun p => (p.1, f p.2)) k = (look l k).map f
  | [], k => rfl
  | (i, x) :: r, k => by
    simp only [List.map_cons, look]
    by_cases hik : i = k
    · simp [hik]
    · simp [hik, look_map f r k]
theorem havSl_get (keep : List Nat) : ∀ (l : List V) (i j : Nat) (y : V), (havSl keep i l)[j]? = some y → ∃ x, l[j]? = some x ∧ (y = x.hav keep ∨ y = V.un)
  | [], i, j, y, h => by simp [havSl] at h
  | v :: r, i, 0, y, h => by
    simp only [havSl, List.getElem?_cons_zero, Option.some.injEq] at h
    refine ⟨v, rfl, ?_⟩
    split at h
    · exact .inl h.symm
    · exact .inr h.symm
  | v :: r, i, j + 1, y, h => by
    simp only [havSl, List.getElem?_cons_succ] at h
    simpa using havSl_get keep r (i + 1) j y h
theorem havSl_len (keep : List Nat) : ∀ (l : List V) (i : Nat), (havSl keep i l).length = l.length
  | [], i => rfl
  | v :: r, i => by simp [havSl, havSl_len keep r]
theorem Inv.hav {Γ : Ctx} {B : Nat} {s : St} {a : Act} (h : Inv Γ B s a) (keep : List Nat) : Step ql B Γ (Γ.hav keep) ∧ Inv (Γ.hav keep) B (s.hav keep) a := by
  refine ⟨⟨rfl, rfl, rfl, Nat.le_refl _, fun _ _ _ => rfl, fun _ ha => ⟨ha, rfl⟩, fun _ ha => .inl ha, Nat.le_refl _, fun _ _ => rfl, fun _ _ _ => rfl, fun _ => Nat.le_refl _⟩,
    h.defers, by simp [St.hav, havSl_len, h.size], fun i v y hv hy => ?_, fun k => ?_, fun k => ?_, h.ng, fun k cs hk => ?_, fun k t hk => ?_, fun o cs ho hce => ?_, h.fix, h.ownlt, h.base, fun k p hk => ?_⟩
  · obtain ⟨x, hx, rfl | rfl⟩ := havSl_get keep _ _ _ _ hy
    · exact (h.slots i v x hv hx).hav
    · trivial
  · simp only [Ctx.hav, St.hav]
    rw [look_filter (fun k => keep.contains k)]
    split
    · exact h.len k
    · rfl
  · simp only [Ctx.hav, St.hav]
    rw [look_map, look_filter (fun k => keep.contains k), look_filter (fun k => keep.contains k), Option.isSome_map, h.bl]
    by_cases hk : k ∈ keep <;> simp [hk]
  · simp only [St.hav] at hk
    rw [look_map, look_filter (fun k => keep.contains k), Option.map_eq_some_iff] at hk
    obtain ⟨cs0, hk, rfl⟩ := hk
    split at hk
    · obtain ⟨vs, ty, e1, e2, e3, e4, e5⟩ := h.boxes k cs0 hk
      exact ⟨vs, ty, e1, e2, All2.map_right _ (e3.mono fun _ _ => RW.hav), e4, e5⟩
    · cases hk
  · simp only [St.hav] at hk
    rw [look_filter (fun k => keep.contains k)] at hk
    split at hk
    · exact h.toks k t hk
    · cases hk
  · obtain ⟨vs, ty, e1, e3, e4, e5, e6⟩ := h.globs o cs ho hce
    refine ⟨vs, ty, e1, ⟨e3.1, fun i u b hu hb => ?_⟩, e4, e5, e6⟩
    have := (e3.2 i u b hu hb).hav (keep := keep)
    have hf := e6.1 b (List.mem_of_getElem? hb)
    cases b <;> simp only [W.free, Bool.false_eq_true] at hf <;> exact this
  · simp only [St.hav] at hk
    rw [look_filter (fun k => keep.contains k)] at hk
    split at hk
    · exact h.its k p hk
    · cases hk

theorem code_sound {cfg : Cfg} {fid : Nat} {call : Caller} (hm : Base P cfg) (hc : Sound P ql call) (n : Nat) : ∀ (c : Code) (hk : codeOk cfg fid c = true) {rd : Option Nat} {B : Nat} (hr : rd = none ∨ noR c = true) {Γ : Ctx} {s : St} {r : Ex × St} {a : Act}, Inv Γ B s a → evC P cfg fid call n c s = some r →
    ∀ {Q : Exit → Act → World → Prop}, (∀ Γ' a', Step ql B Γ Γ' → Inv Γ' B r.2 a' → Q (exitOf r.1) a' Γ'.w) → c.wpIn (Fr rd) 0 P Q a Γ.w := by
  intro c
  induction c with
  | skip =>
    intro hk rd B hr Γ s r a hI h Q hQ
    simp only [evC, Option.some.injEq] at h
    subst h
    exact wpIn_skip (hQ Γ a (Step.refl _ _) hI)
  | region id ops draw =>
    intro hk rd B hr Γ s r a hI h Q hQ
    simp only [evC] at h
    rw [Option.map_eq_some_iff] at h
    obtain ⟨s', hs, rfl⟩ := h
    exact region_sound hm.1 hc hI hk hs hQ
  | seq x y ihx ihy =>
    intro hk rd B hr Γ s r a hI h Q hQ
    simp only [evC, Option.bind_eq_some_iff] at h
    obtain ⟨⟨e, s1⟩, h1, h⟩ := h
    simp only [codeOk, Bool.and_eq_true] at hk
    simp only [noR, Bool.and_eq_true] at hr
    refine wpIn_seq (ihx hk.1 (hr.imp id fun h => h.1) hI h1 fun Γ' a' st hI' => ?_)
    cases e with
    | normal => exact ihy hk.2 (hr.imp id fun h => h.2) hI' h fun Γ'' a'' st' hI'' => hQ Γ'' a'' (st.trans st') hI''
    | exit id => simp only [Option.some.injEq] at h; subst h; exact hQ Γ' a' st hI'
    | ret => simp only [Option.some.injEq] at h; subst h; exact hQ Γ' a' st hI'
  | cond c x y ihx ihy =>
    intro hk rd B hr Γ s r a hI h Q hQ
    simp only [evC, Option.bind_eq_some_iff] at h
    obtain ⟨v, hv, h⟩ := h
    split at h
    · rename_i q
      have hq := ev_sound hI hv
      generalize he : a.eval c = u at hq
      cases hq
      simp only [codeOk, Bool.and_eq_true] at hk
      simp only [noR, Bool.and_eq_true] at hr
      refine wpIn_cond he ?_
      cases q
      · exact ihy hk.2 (hr.imp id fun h => h.2) hI h hQ
      · exact ihx hk.1 (hr.imp id fun h => h.1) hI h hQ
    · cases h
  | block id b ih =>
    intro hk rd B hr Γ s r a hI h Q hQ
    simp only [evC, Option.map_eq_some_iff] at h
    obtain ⟨⟨e, s1⟩, h1, h⟩ := h
    refine wpIn_block (ih hk hr hI h1 fun Γ' a' st hI' => ?_)
    cases e with
    | normal => subst h; exact hQ Γ' a' st hI'
    | exit i =>
      simp only at h
      simp only [exitOf, Exit.inBlock]
      split at h
      · rename_i hi; subst h; rw [if_pos hi]; exact hQ Γ' a' st hI'
      · rename_i hi; subst h; rw [if_neg hi]; exact hQ Γ' a' st hI'
    | ret => subst h; exact hQ Γ' a' st hI'
  | loop b ih =>
    intro hk rd B hr Γ s r a hI h Q hQ
    simp only [evC, loopA, Option.map_eq_some_iff] at h
    obtain ⟨r0, h, hr0⟩ := h
    refine wpIn_loop_rounds n ?_
    generalize cfg.keep fid (firstId b) = keep at h hr0
    have hQ0 : ∀ Γ' a', Step ql B Γ Γ' → Inv Γ' B r0.2 a' → Q (exitOf r0.1) a' Γ'.w := by
      intro Γ' a' st hI'
      obtain ⟨e, s1⟩ := r0
      cases e with
      | normal => subst hr0; exact hQ Γ' a' st hI'
      | exit i => subst hr0; obtain ⟨st', hI''⟩ := hI'.hav (ql := ql) keep; exact hQ (Γ'.hav keep) a' (st.trans st') hI''
      | ret => subst hr0; obtain ⟨st', hI''⟩ := hI'.hav (ql := ql) (cfg.res fid); exact hQ (Γ'.hav (cfg.res fid)) a' (st.trans st') hI''
    clear hQ hr0
    revert h hQ0
    generalize r0 = r
    intro h hQ
    have key : ∀ (m : Nat) {Γ : Ctx} {s : St} {a : Act}, Inv Γ B s a → iter (evC P cfg fid call n b) (St.hav keep) m s = some r → (∀ Γ' a', Step ql B Γ Γ' → Inv Γ' B r.2 a' → Q (exitOf r.1) a' Γ'.w) → Code.roundsIn (Fr rd) 0 P b Q m a Γ.w := by
      intro m
      induction m with
      | zero => intro Γ s a _ h; simp [iter] at h
      | succ m ihm =>
        intro Γ s a hI h hQ
        simp only [iter, Option.bind_eq_some_iff] at h
        obtain ⟨⟨e, s1⟩, h1, h⟩ := h
        obtain ⟨st0, hI0⟩ := hI.hav (ql := ql) keep
        rw [roundsIn_succ]
        refine ih hk hr (Γ := Γ.hav keep) hI0 h1 fun Γ' a' st hI' => ?_
        cases e with
        | normal => exact ihm hI' h fun Γ'' a'' st' hI'' => hQ Γ'' a'' ((st0.trans st).trans st') hI''
        | exit id => simp only [Option.some.injEq] at h; subst h; exact hQ Γ' a' (st0.trans st) hI'
        | ret => simp only [Option.some.injEq] at h; subst h; exact hQ Γ' a' (st0.trans st) hI'
    exact key n hI h hQ
  | exit id =>
    intro hk rd B hr Γ s r a hI h Q hQ
    simp only [evC, Option.some.injEq] at h
    subst h
    exact wpIn_exit (hQ Γ a (Step.refl _ _) hI)
  | ret =>
    intro hk rd B hr Γ s r a hI h Q hQ
    simp only [evC, Option.some.injEq] at h
    subst h
    exact wpIn_ret (hQ Γ a (Step.refl _ _) hI)
  | rangeFunc g ps assign body iha ihb =>
    intro hk rd B hr Γ s r a hI h Q hQ
    rcases hr with rfl | hr
    rotate_left
    · simp [noR] at hr
    simp only [evC, Option.bind_eq_some_iff, Option.map_eq_some_iff] at h
    obtain ⟨⟨ys, s1⟩, hit, ⟨e, gl'⟩, hr, rfl⟩ := h
    unfold iterA at hit
    rw [Option.bind_eq_some_iff] at hit
    obtain ⟨v, hv, hit⟩ := hit
    split at hit
    · rename_i f o
      simp only [Option.bind_eq_some_iff] at hit
      obtain ⟨cs, hcs, ⟨m, ys'⟩, hys, hit⟩ := hit
      split at hit
      · rename_i hc
        obtain ⟨hc1, hc2, rfl⟩ := hc
        simp only [Option.some.injEq, Prod.mk.injEq] at hit
        obtain ⟨rfl, rfl⟩ := hit
        simp only [codeOk, Bool.and_eq_true] at hk
        exact range_sound hI hv hcs (by rintro rfl; simp at hc1) (hm.2 _ _ _ _ hys) (fun hI h _ hQ => iha hk.1.1.1 (.inr hk.1.2) hI h hQ) (fun hI h _ hQ => ihb hk.1.1.2 (.inr hk.2) hI h hQ) hr hQ
      · cases hit
    · cases hit
  | _ => intro hk rd B hr Γ s r a hI h; simp [evC] at h

/-! what is shared below 'ro' stays as it is -/
def RoOk (call : Caller) : Prop := ∀ f args ro gl r, call f args ro gl = some r → ro ≤ gl.length → r.2.take ro = gl.take ro ∧ ro ≤ r.2.length
/-- The shared objects that a state may not write are those of another. -/
def Kept (s s' : St) : Prop := s'.gl.take s.ro = s.gl.take s.ro ∧ s'.ro = s.ro ∧ s.ro ≤ s'.gl.length
theorem Kept.trans {a b c : St} (h : Kept a b) (k : Kept b c) : Kept a c := ⟨by rw [← h.2.1]; rw [k.1, h.2.1, h.1], k.2.1.trans h.2.1, by rw [← h.2.1]; exact k.2.2⟩
theorem take_set_le {α : Type} : ∀ (l : List α) (o n : Nat) (x : α), n ≤ o → (l.set o x).take n = l.take n
  | [], _, _, _, _ => rfl
  | a :: l, o, 0, x, _ => by simp
  | a :: l, 0, n + 1, x, h => by omega
  | a :: l, o + 1, n + 1, x, h => by simp only [List.set_cons_succ, List.take_succ_cons]; rw [take_set_le l o n x (by omega)]
theorem put_kept {s : St} (hro : s.ro ≤ s.gl.length) (d : Option Nat) (v : V) : Kept s (s.put d v) := ⟨by rw [put_gl], put_ro _ _ _, by rw [put_gl]; exact hro⟩
theorem opA_ro {cfg : Cfg} {fid : Nat} {call : Caller} (hc : RoOk call) {s s' : St} {o : Oper} (hro : s.ro ≤ s.gl.length) (h : opA P cfg fid call s o = some s') : Kept s s' := by
  have keep : ∀ (d : Option Nat) (v : V), Kept s (s.put d v) := put_kept hro
  have mild : ∀ {d : Option Nat}, Mild s s' d → Kept s s' := fun h => ⟨(h.gl hro).1, h.ro, (h.gl hro).2⟩
  have calm' : (calmA P s o.op).map (fun v => s.put o.dst v) = some s' → Kept s s' := by
    intro h
    rw [Option.map_eq_some_iff] at h
    obtain ⟨x, hx, rfl⟩ := h
    exact keep _ _
  have newvar : ∀ (d : Nat) (cs : List W), (if cfg.esc fid d then (lodges cs).map fun cs => { (s.put o.dst (.c (.w (.glo s.gl.length 0)))) with gl := s.gl ++ [cs] }
        else match look s.bx d, look s.it d with | none, none => some { (s.put o.dst (.c (.w (.box d 0)))) with bx := upd s.bx d cs } | _, _ => none) = some s' → Kept s s' := by
    intro d cs h
    split at h
    · rw [Option.map_eq_some_iff] at h
      obtain ⟨cs', _, rfl⟩ := h
      have := keep o.dst (.c (.w (.glo s.gl.length 0)))
      refine ⟨?_, this.2.1, by simp; omega⟩
      show (s.gl ++ [cs']).take s.ro = _
      rw [List.take_append_of_le_length hro]
    · split at h
      · cases h; exact keep _ _
      · cases h
  unfold opA at h
  split at h
  · simp only [Option.bind_eq_some_iff] at h
    obtain ⟨z, hz, d, hd, h⟩ := h
    exact newvar d _ h
  · simp only [Option.bind_eq_some_iff] at h
    obtain ⟨d, hd, v, hv, h⟩ := h
    split at h
    · cases h; exact keep _ _
    · cases h
  · rw [Option.bind_eq_some_iff] at h
    obtain ⟨v, hv, h⟩ := h
    split at h
    · rw [Option.bind_eq_some_iff] at h
      obtain ⟨p, hp, h⟩ := h
      split at h
      · cases h; exact keep _ _
      · cases h; exact keep _ _
    · cases h
  · simp only [Option.bind_eq_some_iff] at h
    obtain ⟨v, hv, c, hcv, d, hd, h⟩ := h
    by_cases hf : cfg.frz fid d = true
    · rw [if_pos hf, Option.map_eq_some_iff] at h
      obtain ⟨ds, hds, rfl⟩ := h
      exact keep _ _
    · rw [if_neg hf] at h
      exact newvar d _ h
  · rw [Option.bind_eq_some_iff] at h
    obtain ⟨v, hv, h⟩ := h
    split at h
    · simp only [Option.bind_eq_some_iff] at h
      obtain ⟨v', hv', c, hcv, n, hn, h⟩ := h
      split at h
      · rw [Option.map_eq_some_iff] at h
        obtain ⟨s2, hs2, rfl⟩ := h
        unfold St.storeW at hs2
        split at hs2
        · simp only [Option.bind_eq_some_iff, Option.map_eq_some_iff] at hs2
          obtain ⟨cs, hcs, cs', hp', rfl⟩ := hs2
          have := keep o.dst V.un
          exact ⟨by rw [put_gl], put_ro _ _ _, by rw [put_gl]; exact hro⟩
        · split at hs2
          · cases hs2
          · rename_i hfl
            simp only [Option.bind_eq_some_iff, Option.map_eq_some_iff] at hs2
            obtain ⟨cs, hcs, cs', hp', cs2, hp2, rfl⟩ := hs2
            refine ⟨?_, put_ro _ _ _, ?_⟩
            · rw [put_gl]
              exact take_set_le _ _ _ _ (by omega)
            · rw [put_gl]
              simpa using hro
        · cases hs2
      · cases h
    · cases h
  · split at h
    · split at h
      · simp only [Option.bind_eq_some_iff] at h
        obtain ⟨v, hv, v', hv', d, hd, h⟩ := h
        exact mild (appendM_mild h)
      · cases h
    · cases h
  · simp only [Option.bind_eq_some_iff] at h
    obtain ⟨vl, hvl, il, hil, vc, hvc, ic, hic, h⟩ := h
    exact mild (make_mild h)
  · split at h
    · simp only [Option.bind_eq_some_iff] at h
      obtain ⟨v, hv, v', hv', h⟩ := h
      exact mild (copy_mild h)
    · cases h
  · split at h
    · simp only [Option.bind_eq_some_iff] at h
      obtain ⟨v, hv, h⟩ := h
      exact mild (clear_mild h)
    · cases h
  · rw [Option.bind_eq_some_iff] at h
    obtain ⟨v, hv, h⟩ := h
    split at h
    · simp only [Option.bind_eq_some_iff] at h
      obtain ⟨vs, hvs, h⟩ := h
      unfold callA at h
      simp only [Option.bind_eq_some_iff] at h
      obtain ⟨cs0, hcs0, cs, hcs, h⟩ := h
      split at h
      · rw [Option.bind_eq_some_iff] at h
        obtain ⟨r, hr, h⟩ := h
        split at h
        · cases h; exact keep _ _
        · cases h
      · rw [Option.map_eq_some_iff] at h
        obtain ⟨r, hr, rfl⟩ := h
        obtain ⟨k1, k2⟩ := hc _ _ _ _ _ hr hro
        exact ⟨k1, put_ro _ _ _, k2⟩
    · cases h
  · exact calm' h
theorem opsA_ro {cfg : Cfg} {fid : Nat} {call : Caller} (hc : RoOk call) {ops : List Oper} : ∀ (l : List Oper) {s s' : St}, s.ro ≤ s.gl.length → opsA P cfg fid call ops l s = some s' → Kept s s'
  | [], s, s', hro, h => by simp only [opsA, Option.some.injEq] at h; subst h; exact ⟨rfl, rfl, hro⟩
  | o :: l, s, s', hro, h => by
    simp only [opsA, Option.bind_eq_some_iff] at h
    obtain ⟨s1, h1, h⟩ := h
    unfold stepA at h1
    rw [Option.bind_eq_some_iff] at h1
    obtain ⟨q, hq, h1⟩ := h1
    have k : Kept s s1 := by
      cases q with
      | true => exact opA_ro hc hro h1
      | false => simp only [Option.some.injEq] at h1; subst h1; exact put_kept hro _ _
    exact k.trans (opsA_ro hc l (by rw [k.2.1]; exact k.2.2) h)
theorem evC_ro {cfg : Cfg} {fid : Nat} {call : Caller} (hc : RoOk call) (n : Nat) : ∀ (c : Code) {s : St} {r : Ex × St}, s.ro ≤ s.gl.length → evC P cfg fid call n c s = some r → Kept s r.2 := by
  intro c
  induction c with
  | skip => intro s r hro h; simp only [evC, Option.some.injEq] at h; subst h; exact ⟨rfl, rfl, hro⟩
  | region id ops draw =>
    intro s r hro h
    simp only [evC] at h
    rw [Option.map_eq_some_iff] at h
    obtain ⟨s', hs, rfl⟩ := h
    cases hl : litOf cfg fid ops.toList with
    | none =>
      obtain ⟨call', hcc, h'⟩ := regA_opsA hl hs
      exact opsA_ro (fun f args ro gl r hr => hc f args ro gl r (hcc f args ro gl r hr)) _ hro h'
    | some q =>
      obtain ⟨d, t, len, parts, r⟩ := q
      rw [hl] at hs
      simp only [Option.bind_eq_some_iff] at hs
      obtain ⟨s1, h1, h2⟩ := hs
      have hm := buildG_mild h1
      have k : Kept s s1 := ⟨(hm.gl hro).1, hm.ro, (hm.gl hro).2⟩
      exact k.trans (opsA_ro hc r (by rw [k.2.1]; exact k.2.2) h2)
  | seq x y ihx ihy =>
    intro s r hro h
    simp only [evC, Option.bind_eq_some_iff] at h
    obtain ⟨⟨e, s1⟩, h1, h⟩ := h
    have k1 := ihx hro h1
    cases e with
    | normal => exact k1.trans (ihy (by rw [k1.2.1]; exact k1.2.2) h)
    | exit id => simp only [Option.some.injEq] at h; subst h; exact k1
    | ret => simp only [Option.some.injEq] at h; subst h; exact k1
  | cond c x y ihx ihy =>
    intro s r hro h
    simp only [evC, Option.bind_eq_some_iff] at h
    obtain ⟨v, hv, h⟩ := h
    split at h
    · split at h
      · exact ihx hro h
      · exact ihy hro h
    · cases h
  | block id b ih =>
    intro s r hro h
    simp only [evC, Option.map_eq_some_iff] at h
    obtain ⟨⟨e, s1⟩, h1, h⟩ := h
    have k := ih hro h1
    cases e with
    | normal => subst h; exact k
    | ret => subst h; exact k
    | exit i =>
      simp only at h
      split at h <;> (subst h; exact k)
  | loop b ih =>
    intro s r hro h
    simp only [evC, loopA, Option.map_eq_some_iff] at h
    obtain ⟨r0, h, hr⟩ := h
    generalize cfg.keep fid (firstId b) = keep at h hr
    have hr2 : r.2.gl = r0.2.gl ∧ r.2.ro = r0.2.ro := by
      obtain ⟨e, s1⟩ := r0
      cases e <;> (subst hr; exact ⟨rfl, rfl⟩)
    suffices hk : Kept s r0.2 from ⟨by rw [hr2.1]; exact hk.1, by rw [hr2.2]; exact hk.2.1, by rw [hr2.1]; exact hk.2.2⟩
    clear hr2 hr
    revert h
    generalize r0 = r
    intro h
    have key : ∀ (m : Nat) {s : St}, s.ro ≤ s.gl.length → iter (evC P cfg fid call n b) (St.hav keep) m s = some r → Kept s r.2 := by
      intro m
      induction m with
      | zero => intro s _ h; simp [iter] at h
      | succ m ihm =>
        intro s hro h
        simp only [iter, Option.bind_eq_some_iff] at h
        obtain ⟨⟨e, s1⟩, h1, h⟩ := h
        have k1 : Kept s s1 := ih (s := s.hav keep) hro h1
        cases e with
        | normal => exact k1.trans (ihm (by rw [k1.2.1]; exact k1.2.2) h)
        | exit id => simp only [Option.some.injEq] at h; subst h; exact k1
        | ret => simp only [Option.some.injEq] at h; subst h; exact k1
    exact key n hro h
  | rangeFunc g ps assign body iha ihb =>
    intro s r hro h
    simp only [evC, Option.bind_eq_some_iff, Option.map_eq_some_iff] at h
    obtain ⟨⟨ys, s1⟩, hit, ⟨e, gl'⟩, hr, rfl⟩ := h
    unfold iterA at hit
    rw [Option.bind_eq_some_iff] at hit
    obtain ⟨v, hv, hit⟩ := hit
    split at hit
    · rename_i f o
      simp only [Option.bind_eq_some_iff] at hit
      obtain ⟨cs, hcs, ⟨m, ys'⟩, hys, hit⟩ := hit
      split at hit
      · rename_i hc
        obtain ⟨hc1, hc2, rfl⟩ := hc
        simp only [Option.some.injEq, Prod.mk.injEq] at hit
        obtain ⟨rfl, rfl⟩ := hit
        have key : ∀ (ys : List (List C)) (gl : List (List W)), s.ro ≤ gl.length → rangeA (roundA (evC P cfg fid call n assign) (evC P cfg fid call n body) ps.toList { s with gl := s.gl.set o [] }) ys gl = some (e, gl') → gl'.take s.ro = gl.take s.ro ∧ s.ro ≤ gl'.length := by
          intro ys
          induction ys with
          | nil => intro gl hgl h; simp only [rangeA, Option.some.injEq, Prod.mk.injEq] at h; obtain ⟨_, rfl⟩ := h; exact ⟨rfl, hgl⟩
          | cons y ys ih =>
            intro gl hgl h
            simp only [rangeA, Option.bind_eq_some_iff] at h
            obtain ⟨⟨e1, gl1⟩, hR, h⟩ := h
            have k1 : gl1.take s.ro = gl.take s.ro ∧ s.ro ≤ gl1.length := by
              unfold roundA at hR
              simp only [Option.bind_eq_some_iff] at hR
              obtain ⟨⟨ea, s1⟩, hA, hR⟩ := hR
              have kA := iha hgl hA
              cases ea with
              | exit id => cases hR
              | ret => cases hR
              | normal =>
                simp only [Option.map_eq_some_iff, Prod.mk.injEq] at hR
                obtain ⟨⟨eb, s2⟩, hB, rfl, rfl⟩ := hR
                have kB := kA.trans (ihb (by rw [kA.2.1]; exact kA.2.2) hB)
                exact ⟨kB.1, kB.2.2⟩
            cases e1 with
            | normal => obtain ⟨k2, k3⟩ := ih gl1 k1.2 h; exact ⟨k2.trans k1.1, k3⟩
            | exit id => simp only [Option.some.injEq, Prod.mk.injEq] at h; obtain ⟨_, rfl⟩ := h; exact k1
            | ret => simp only [Option.some.injEq, Prod.mk.injEq] at h; obtain ⟨_, rfl⟩ := h; exact k1
        obtain ⟨k1, k2⟩ := key _ _ (by simpa using hro) hr
        exact ⟨by rw [k1]; exact take_set_le _ _ _ _ hc2, rfl, k2⟩
      · cases hit
    · cases hit
  | exit id => intro s r hro h; simp only [evC, Option.some.injEq] at h; subst h; exact ⟨rfl, rfl, hro⟩
  | ret => intro s r hro h; simp only [evC, Option.some.injEq] at h; subst h; exact ⟨rfl, rfl, hro⟩
  | _ => intro s r hro h; simp [evC] at h

/-! functions -/
def resOne (tmps : Array Value) : ResultVar → Sem Value
  | .tmp t => pure (tmps.getD t undef)
  | .cell ad t => do loadVar t (← asAddr (tmps.getD ad undef))
theorem results_eq (fn : Func) (tmps : Array Value) : results fn tmps = (do let vs ← fn.results.mapM (resOne tmps); pure (if h : vs.size = 1 then vs[0] else .tuple vs)) := by
  unfold results
  congr 2
theorem results_sound {Γ : Ctx} {B : Nat} {s : St} {a : Act} (hI : Inv Γ B s a) : ∀ (l : List ResultVar) (cs : List C), resA P s l = some cs →
    ∃ vs : List Value, (l.mapM (resOne a.tmps)).run P Γ.w = .ok vs Γ.w ∧ All2 (fun v c => RC Γ v c) vs cs
  | [], cs, h => by simp only [resA, Option.some.injEq] at h; subst h; exact ⟨[], by simp, All2.nil⟩
  | .tmp t :: r, cs, h => by
    simp only [resA, Option.bind_eq_some_iff, Option.map_eq_some_iff] at h
    obtain ⟨c, hc, b, hb, rfl⟩ := h
    obtain ⟨vs, hr, hv⟩ := results_sound hI r b hb
    refine ⟨a.tmps.getD t undef :: vs, ?_, All2.cons (comp_sound (get_sound hI t) hc).1 hv⟩
    simp only [List.mapM_cons, resOne, Sem.run_bind, Sem.run_pure, Result.andThen_ok, hr]
  | .cell ad t :: r, cs, h => by
    simp only [resA, Option.bind_eq_some_iff, Option.map_eq_some_iff] at h
    obtain ⟨c, hc, b, hb, rfl⟩ := h
    obtain ⟨vs, hr, hv⟩ := results_sound hI r b hb
    obtain ⟨p, hp, u, hu, hcu⟩ := loadC_sound hI (get_sound hI ad) hc
    refine ⟨u :: vs, ?_, All2.cons hcu hv⟩
    have h1 : (resOne a.tmps (.cell ad t)).run P Γ.w = .ok u Γ.w := by simp only [resOne, hp, asAddr, Sem.run_bind, Sem.run_pure, Result.andThen_ok, hu]
    rw [List.mapM_cons, Sem.run_bind, h1, Result.andThen_ok, Sem.run_bind, hr]
    rfl

theorem expoCs_sound2 {Γ : Ctx} : ∀ {vs : List Value} {xs ys : List C}, All2 (fun v c => RC Γ v c) vs xs → expoCs xs = some ys → All2 (fun v c => RC Γ.calm v c) vs ys
  | vs, [], ys, h, hx => by simp only [expoCs, Option.some.injEq] at hx; subst hx; rw [h.nil_iff]; exact All2.nil
  | vs, x :: r, ys, h, hx => by
    simp only [expoCs, Option.bind_eq_some_iff, Option.map_eq_some_iff] at hx
    obtain ⟨c, hc, b, hb, rfl⟩ := hx
    obtain ⟨v, vs', rfl, h1, h2⟩ := h.uncons
    obtain ⟨k1, k2⟩ := cexpo_sound h1 hc
    exact All2.cons (RC.calm k1 k2) (expoCs_sound2 h2 hb)

def V.below (n : Nat) : V → Bool
  | .c x => x.below n
  | .tup xs => xs.all (C.below n)
def dropOwn (n m : Nat) : Option Owner → Option Owner
  | some (.glo o) => if n ≤ o ∧ o < m then none else some (.glo o)
  | x => x
/-- Objects from n on are nobody's; what lay in them stays. -/
def Ctx.drop (Γ : Ctx) (n : Nat) : Ctx := { Γ with ng := n, F := fun a => Γ.F a ∨ ∃ o, n ≤ o ∧ o < Γ.ng ∧ Γ.own a.block = some (.glo o), own := fun g => dropOwn n Γ.ng (Γ.own g) }
theorem Ctx.drop_F {Γ : Ctx} {n : Nat} {a : Addr} (h : Γ.F a) : (Γ.drop n).F a := .inl h
theorem RD.drop {Γ : Ctx} {n : Nat} {v : Value} {d : D} (h : RD Γ.F Γ.w v d) : RD (Γ.drop n).F Γ.w v d := h.mono fun a ha => ⟨Ctx.drop_F ha, rfl⟩
theorem RW.below {Γ : Ctx} {v : Value} {x : W} (h : RW Γ v x) : x.below Γ.ng = true := by
  cases x <;> try rfl
  · simpa [W.below] using h.2
  · simp only [W.below, List.all_eq_true, decide_eq_true_eq]
    exact h.2
  · obtain ⟨c, _, _, _, _, _, h⟩ := h
    simpa [W.below] using h
theorem RW.drop {Γ : Ctx} {n : Nat} {v : Value} {x : W} (h : RW Γ v x) (hb : x.below n = true) : RW (Γ.drop n) v x := by
  cases x
  case d => exact RD.drop h
  case full => exact ⟨RD.drop h.1, h.2⟩
  case app => exact ⟨RD.drop h.1, h.2⟩
  case ref =>
    obtain ⟨a, rfl, vs, h⟩ := h
    exact ⟨a, rfl, vs, fun j d hj => ⟨Ctx.drop_F (h j d hj).1, (h j d hj).2.1, RD.drop (h j d hj).2.2⟩⟩
  case glo => simp only [W.below, decide_eq_true_eq] at hb; exact ⟨h.1, hb⟩
  case gsl => simp only [W.below, decide_eq_true_eq] at hb; obtain ⟨c, h1, h2, h3, h4, h5, _⟩ := h; exact ⟨c, h1, h2, h3, h4, h5, hb⟩
  case row => exact ⟨⟨RD.drop h.1.1, h.1.2⟩, h.2.1, fun ad m e j hj => by obtain ⟨A, k1, k2⟩ := h.2.2 ad m e j hj; exact ⟨A, Ctx.drop_F k1, k2⟩⟩
  case fn => simp only [W.below, List.all_eq_true, decide_eq_true_eq] at hb; exact ⟨h.1, hb⟩
  all_goals exact h
theorem RC.drop {Γ : Ctx} {n : Nat} {v : Value} {x : C} (h : RC Γ v x) (hb : x.below n = true) : RC (Γ.drop n) v x := by
  cases x with
  | w x => exact RW.drop h hb
  | agg xs =>
    obtain ⟨cs, rfl, h1, h2⟩ := h
    simp only [C.below, List.all_eq_true] at hb
    exact ⟨cs, rfl, ⟨h1.1, fun i a b ha hb' => RW.drop (h1.2 i a b ha hb') (hb b (List.mem_of_getElem? hb'))⟩, h2⟩
theorem mapO_get {α β : Type} {f : α → Option β} : ∀ {xs : List α} {ys : List β}, mapO f xs = some ys → xs.length = ys.length ∧ ∀ (i : Nat) x y, xs[i]? = some x → ys[i]? = some y → f x = some y
  | [], ys, h => by simp only [mapO, Option.some.injEq] at h; subst h; exact ⟨rfl, by simp⟩
  | x :: r, ys, h => by
    simp only [mapO, Option.bind_eq_some_iff, Option.map_eq_some_iff] at h
    obtain ⟨a, ha, b, hb, rfl⟩ := h
    obtain ⟨h1, h2⟩ := mapO_get hb
    refine ⟨by simp [h1], fun i x' y hx hy => ?_⟩
    cases i with
    | zero => simp at hx hy; subst hx; subst hy; exact ha
    | succ i => exact h2 i x' y (by simpa using hx) (by simpa using hy)
theorem shut_sound {Γ : Ctx} {B : Nat} {s : St} {a : Act} (hI : Inv Γ B s a) {b : Nat} : ∀ (n : Nat) {v : Value} {x : W} {d : D}, RW Γ v x → W.shut s.gl b n x = some d → RD (Γ.drop b).F Γ.w v d
  | 0, v, x, d, h, hx => RD.drop (close_sound h hx)
  | n + 1, v, x, d, h, hx => by
    unfold W.shut at hx
    split at hx
    · rename_i o off k m z
      split at hx
      · rename_i hc
        simp only [Option.bind_eq_some_iff, Option.map_eq_some_iff] at hx
        obtain ⟨cs, hcs, ws, hws, ds, hds, rfl⟩ := hx
        obtain ⟨c, rfl, h1, h2, h3, h4, h5⟩ := h
        obtain ⟨g1, g2⟩ := mapO_get hds
        obtain ⟨q1, q2, q3⟩ := cut_spec hws
        by_cases hk0 : k * z = 0
        · have hds0 : ds = [] := List.eq_nil_of_length_eq_zero (by rw [← g1, q3, hk0])
          subst hds0
          refine .sl _ _ _ z _ (fun _ _ => undef) (chunk_len z k []) (by omega) h3 (fun e => by cases e) (fun i y hy => ?_) (fun ad _ i j hi hj => ?_) (fun i j y d hy hd => ?_)
          · rw [chunk_get z k [] i y hy]
            have hi : i < k := by have := (List.getElem?_eq_some_iff.1 hy).1; rwa [chunk_len] at this
            rcases Nat.mul_eq_zero.1 hk0 with h0 | h0
            · omega
            · simp [h0]
          · rcases Nat.mul_eq_zero.1 hk0 with h0 | h0 <;> omega
          · rw [chunk_get z k [] i y hy] at hd
            simp at hd
        have hce : cs ≠ [] := by
          rintro rfl
          simp at q1
          omega
        obtain ⟨us, ty, e1, e3, e4, e5, e6, e7⟩ := hI.globs o cs hcs hce
        have hle : cs.length ≤ us.size := by have := e3.1; simp at this; omega
        have hcell : ∀ j, j < k * z → Γ.w.cell? ⟨Γ.glo o, off + j, none⟩ = some (us.getD (off + j) undef) := fun j hj => by
          rw [cell_of_heap e1, Array.getD_eq_getD_getElem?, Array.getElem?_eq_getElem (by omega)]
          rfl
        have hij : ∀ i j, i < k → j < z → i * z + j < k * z := fun i j hi hj => by
          have : (i + 1) * z ≤ k * z := Nat.mul_le_mul_right _ hi
          rw [Nat.add_mul] at this
          omega
        refine .sl _ _ _ z _ (fun i j => us.getD (off + (i * z + j)) undef) (chunk_len z k ds) (by omega) h3 (fun e => by cases e) (fun i y hy => ?_) (fun ad had i j hi hj => ?_) (fun i j y d hy hd => ?_)
        · have hi : i < k := by have := (List.getElem?_eq_some_iff.1 hy).1; rwa [chunk_len] at this
          rw [chunk_get z k ds i y hy]
          have : (i + 1) * z ≤ k * z := Nat.mul_le_mul_right _ hi
          rw [Nat.add_mul] at this
          simp only [List.length_take, List.length_drop, ← g1, q3]
          omega
        · cases had
          rw [add_plain, hcell _ (hij i j hi hj)]
          exact ⟨.inr ⟨o, hc.1, h5, e4⟩, rfl⟩
        · have hi : i < k := by have := (List.getElem?_eq_some_iff.1 hy).1; rwa [chunk_len] at this
          have hy' := chunk_get z k ds i y hy
          subst hy'
          rw [List.getElem?_take] at hd
          split at hd
          · rename_i hj
            rw [List.getElem?_drop] at hd
            have hlt := hij i j hi hj
            have hwl : i * z + j < ws.length := by rw [q3]; exact hlt
            have hw : ws[i * z + j]? = some ws[i * z + j] := List.getElem?_eq_getElem hwl
            have hsh := g2 _ _ _ hw hd
            have hcw : cs[off + (i * z + j)]? = some ws[i * z + j] := by rw [← cut_get hws hlt]; exact hw
            have hut : (us.toList.take cs.length)[off + (i * z + j)]? = some (us.getD (off + (i * z + j)) undef) := by
              rw [List.getElem?_take_of_lt (by omega), Array.getElem?_toList, Array.getD_eq_getD_getElem?, Array.getElem?_eq_getElem (by omega)]
              rfl
            exact shut_sound hI n (e3.2 _ _ _ hut hcw) hsh
          · cases hd
      · cases hx
    · exact RD.drop (close_sound h hx)
theorem settle_sound {Γ : Ctx} {B : Nat} {s : St} {a : Act} (hI : Inv Γ B s a) {b : Nat} {v : Value} {x y : W} (h : RW Γ v x) (hx : W.settle s.gl b x = some y) (hy : y.below b = true) : RW (Γ.drop b) v y := by
  unfold W.settle at hx
  split at hx
  · split at hx
    · cases hx; exact RW.drop h hy
    · rw [Option.map_eq_some_iff] at hx
      obtain ⟨d, hd, rfl⟩ := hx
      exact shut_sound hI 3 h hd
  · cases hx; exact RW.drop h hy
theorem settles_sound {Γ : Ctx} {B : Nat} {s : St} {a : Act} (hI : Inv Γ B s a) {b : Nat} : ∀ {vs : List Value} {xs ys : List W}, All2 (RW Γ) vs xs → settles s.gl b xs = some ys → ys.all (W.below b) = true → All2 (RW (Γ.drop b)) vs ys
  | vs, [], ys, h, hx, _ => by simp only [settles, Option.some.injEq] at hx; subst hx; rw [h.nil_iff]; exact All2.nil
  | vs, x :: r, ys, h, hx, hy => by
    simp only [settles, Option.bind_eq_some_iff, Option.map_eq_some_iff] at hx
    obtain ⟨c, hc, q, hq, rfl⟩ := hx
    obtain ⟨v, vs', rfl, h1, h2⟩ := h.uncons
    simp only [List.all_cons, Bool.and_eq_true] at hy
    exact All2.cons (settle_sound hI h1 hc hy.1) (settles_sound hI h2 hq hy.2)
theorem csettle_sound {Γ : Ctx} {B : Nat} {s : St} {a : Act} (hI : Inv Γ B s a) {b : Nat} {v : Value} {x y : C} (h : RC Γ v x) (hx : C.settle s.gl b x = some y) (hy : y.below b = true) : RC (Γ.drop b) v y := by
  cases x with
  | w x =>
    simp only [C.settle, Option.map_eq_some_iff] at hx
    obtain ⟨q, hq, rfl⟩ := hx
    exact settle_sound hI h hq hy
  | agg xs =>
    simp only [C.settle, Option.map_eq_some_iff] at hx
    obtain ⟨q, hq, rfl⟩ := hx
    obtain ⟨cs, rfl, h1, h2⟩ := h
    exact ⟨cs, rfl, settles_sound hI h1 hq hy, h2⟩
theorem settleCs_sound {Γ : Ctx} {B : Nat} {s : St} {a : Act} (hI : Inv Γ B s a) {b : Nat} : ∀ {vs : List Value} {xs ys : List C}, All2 (RC Γ) vs xs → settleCs s.gl b xs = some ys → ys.all (C.below b) = true → All2 (RC (Γ.drop b)) vs ys
  | vs, [], ys, h, hx, _ => by simp only [settleCs, Option.some.injEq] at hx; subst hx; rw [h.nil_iff]; exact All2.nil
  | vs, x :: r, ys, h, hx, hy => by
    simp only [settleCs, Option.bind_eq_some_iff, Option.map_eq_some_iff] at hx
    obtain ⟨c, hc, q, hq, rfl⟩ := hx
    obtain ⟨v, vs', rfl, h1, h2⟩ := h.uncons
    simp only [List.all_cons, Bool.and_eq_true] at hy
    exact All2.cons (csettle_sound hI h1 hc hy.1) (settleCs_sound hI h2 hq hy.2)
theorem pack_settle {Γ : Ctx} {v : Value} {xs ys : List C} (h : RV Γ v (packRes xs)) (hl : xs.length = ys.length) (Γ' : Ctx) (k : ∀ vs : List Value, All2 (RC Γ) vs xs → All2 (RC Γ') vs ys) : RV Γ' v (packRes ys) := by
  match xs, ys, hl with
  | [], [], _ => obtain ⟨vs, rfl, h1⟩ := h; exact ⟨vs, rfl, k _ h1⟩
  | [x], [y], _ => have := k [v] (All2.cons h All2.nil); exact this.2 0 v y rfl rfl
  | x :: x' :: r, y :: y' :: r', _ => obtain ⟨vs, rfl, h1⟩ := h; exact ⟨vs, rfl, k _ h1⟩
theorem Inv.drop {Γ : Ctx} {B n : Nat} {x y : V} {gl gl0 : List (List W)} {ro ro' : Nat} {a : Act} (h : Inv Γ B { sl := [x], bx := [], tk := [], gl := gl, ro } a) (hn : gl0.length = n) (hg : gl.take n = gl0) (hx : ∀ v, RV Γ v x → RV (Γ.drop n) v y) (hc : ∀ cs ∈ gl0, ∀ c ∈ cs, W.below n c = true) :
    Inv (Γ.drop n) B { sl := [y], bx := [], tk := [], gl := gl0, ro := ro' } a := by
  have hgn : n ≤ gl.length := by rw [← hn, ← hg]; simp; omega
  refine ⟨h.defers.go fun D e _ => ⟨rfl, by show dropOwn n Γ.ng (Γ.own D) = _; rw [e]; rfl⟩, h.size, fun i v y' hv hy => ?_, h.len, h.bl, hn.symm, fun k cs hk => by simp [look] at hk, fun k t hk => by simp [look] at hk, fun o cs ho hce => ?_, fun ad had => ?_, fun g hg => ?_, h.base, fun k p hk => by simp [look] at hk⟩
  · have hi : i = 0 := by
      have := (List.getElem?_eq_some_iff.1 hy).1
      simpa using this
    subst hi
    simp only [List.getElem?_cons_zero, Option.some.injEq] at hy
    subst hy
    exact hx v (h.slots 0 v x hv rfl)
  · have hon : o < n := by rw [← hn]; exact (List.getElem?_eq_some_iff.1 ho).1
    have ho' : gl[o]? = some cs := by
      rw [← hg, List.getElem?_take_of_lt hon] at ho
      exact ho
    obtain ⟨us, ty, e1, e3, e4, e5, e6⟩ := h.globs o cs ho' hce
    refine ⟨us, ty, e1, ⟨e3.1, fun i u b hu hb => RW.drop (e3.2 i u b hu hb) (hc cs (List.mem_of_getElem? ho) b (List.mem_of_getElem? hb))⟩, ?_, e5, e6⟩
    show dropOwn n Γ.ng (Γ.own (Γ.glo o)) = _
    rw [e4]
    simp only [dropOwn]
    rw [if_neg (by omega)]
  · rcases had with had | ⟨o, h1, h2, h3⟩
    · obtain ⟨e1, e2⟩ := h.fix ad had
      refine ⟨e1, ?_⟩
      show dropOwn n Γ.ng (Γ.own ad.block) = _ ∨ ∃ k, dropOwn n Γ.ng (Γ.own ad.block) = _
      rcases e2 with e2 | ⟨k, e2⟩
      · rw [e2]; exact .inl rfl
      · rw [e2]; exact .inr ⟨k, rfl⟩
    · refine ⟨h.ownlt _ (by rw [h3]; simp), .inl ?_⟩
      show dropOwn n Γ.ng (Γ.own ad.block) = _
      rw [h3]
      simp only [dropOwn]
      rw [if_pos ⟨h1, h2⟩]
  · refine h.ownlt g fun e => hg ?_
    show dropOwn n Γ.ng (Γ.own g) = _
    rw [e]
    rfl
theorem below_pack {n : Nat} : ∀ {cs : List C}, cs.all (C.below n) = true → (packRes cs).below n = true
  | [], _ => rfl
  | [c], h => by simpa [packRes, V.below] using h
  | c :: d :: r, h => h

/-- A call takes the marks that its loops over functions have left. -/
theorem leave_marks {n : Nat} {fn : Func} {tmps : Array Value} {R : Ending → World → Prop} {B : Nat} {Γ0 : Ctx} {s : St} (fin : ∀ {Γ : Ctx}, Step ql B Γ0 Γ → Inv Γ B s { tmps, defers := [] } → LeavesIn (Fr none) n P fn tmps R [] .returning Γ.w) :
    ∀ (ds : List Nat) {Γ : Ctx}, Step ql B Γ0 Γ → Inv Γ B s { tmps, defers := [] } → ds.Nodup → (∀ D ∈ ds, Γ.w.heap[D]? = some (.deferred (some [])) ∧ B ≤ D ∧ Γ.own D = some .mark) → LeavesInM (Fr none) n P fn tmps R (ds.map markD) .returning Γ.w
  | [], Γ, st, hI, _, _ => fin st hI
  | D :: ds, Γ, st, hI, hnd, hds => by
    obtain ⟨e1, e2, e3⟩ := hds D (by simp)
    obtain ⟨k1, k2⟩ := hI.setMark (ql := ql) (B0 := B) (.inl rfl) e2 e3 (.deferred none)
    rw [List.nodup_cons] at hnd
    refine ⟨by simp, .inl ⟨D, _, rfl, run_takeDeferred e1, leave_marks fin ds (Γ := { Γ with w := Γ.w.putObj D (.deferred none) }) (st.trans k1) k2 hnd.2 fun D' hD' => ?_⟩⟩
    obtain ⟨f1, f2, f3⟩ := hds D' (by simp [hD'])
    exact ⟨(World.putObj_heap_other (by rintro rfl; exact hnd.1 hD')).trans f1, f2, f3⟩

theorem body_sound {cfg : Cfg} {fid : Nat} {call : Caller} (hm : Base P cfg) (hc : Sound P ql call) (n : Nat) {fn : Func} (hf : P.funcs[fid]? = some fn) (hok : fnOk cfg fid fn = true) {args : List C} {ro : Nat} {gl : List (List W)} {r : V × List (List W)}
    (h : bodyA P cfg fid call n fn args ro gl = some r) {Γ : Ctx} {vals : List Value} (hI : Inv Γ Γ.w.heap.size { sl := args.map .c, bx := [], tk := [], gl, ro } { tmps := vals.toArray, defers := [] }) :
    Calls P fid vals.toArray Γ.w fun e w' => ∃ (Γ' : Ctx) (v : Value), e = .returned v ∧ Γ'.w = w' ∧ Step ql Γ.w.heap.size Γ Γ' ∧ Inv Γ' Γ.w.heap.size { sl := [r.1], bx := [], tk := [], gl := r.2, ro } { tmps := #[v], defers := [] } := by
  unfold bodyA at h
  simp only [Option.bind_eq_some_iff] at h
  obtain ⟨c, hcode, r0, hev, hend⟩ := h
  have hsz : vals.length = args.length := by have := hI.size; simpa using this
  refine (callsIn_wide (n := 0)).1 (callsIn_of_wp_marks (F := Fr none) hf hcode trivial ?_ rfl)
  have hI0 : Inv Γ Γ.w.heap.size (initA fn args (if cfg.ro fid then gl.length else ro) gl) { tmps := vals.toArray ++ Array.replicate (fn.ntmps - vals.toArray.size) undef, defers := [] } := by
    refine ⟨Marks.nil, by simp [initA, hsz], fun i v x hv hx => ?_, hI.len, hI.bl, hI.ng, hI.boxes, hI.toks, hI.globs, hI.fix, hI.ownlt, hI.base, hI.its⟩
    simp only [initA] at hx
    by_cases hi : i < args.length
    · rw [List.getElem?_append_left (by simpa using hi)] at hx
      rw [Array.getElem?_append_left (by simp [hsz]; exact hi)] at hv
      exact hI.slots i v x hv hx
    · rw [List.getElem?_append_right (by simp; omega)] at hx
      have := List.mem_of_getElem? hx
      rw [List.mem_replicate] at this
      rw [this.2]
      trivial
  refine code_sound hm hc n c (by simp only [fnOk, Bool.and_eq_true] at hok; have := hok.2; rw [hcode] at this; simpa using this) (.inl rfl) hI0 hev fun Γ' a' st hI' => ?_
  obtain ⟨e, s'⟩ := r0
  have kept := evC_ro (P := P) (cfg := cfg) (fid := fid) (fun f args ro gl r h => (hc f args ro gl r h).2) n c (s := initA fn args (if cfg.ro fid then gl.length else ro) gl) (r := (e, s'))
  have fin : ∀ {Γ' : Ctx}, Step ql Γ.w.heap.size Γ Γ' → Inv Γ' Γ.w.heap.size s' { tmps := a'.tmps, defers := [] } → (resA P s' fn.results.toList).bind (fun cs => (expoCs cs).bind fun cs => if cfg.ro fid then (settleCs s'.gl gl.length cs).bind fun cs => (if cs.all (C.below gl.length) then some (packRes cs, gl) else none) else some (packRes cs, s'.gl)) = some r →
      ∃ v, (results fn a'.tmps).run P Γ'.w = .ok v Γ'.w ∧ ∃ (Γ'' : Ctx) (v' : Value), Ending.returned v = .returned v' ∧ Γ''.w = Γ'.w ∧ Step ql Γ.w.heap.size Γ Γ'' ∧ Inv Γ'' Γ.w.heap.size { sl := [r.1], bx := [], tk := [], gl := r.2, ro } { tmps := #[v'], defers := [] } := by
    intro Γ' st hI' h
    simp only [Option.bind_eq_some_iff] at h
    obtain ⟨cs, hcs, cs', hcs', h⟩ := h
    suffices key : ∃ v, (results fn a'.tmps).run P Γ'.w = .ok v Γ'.w ∧ ∃ (Γ'' : Ctx) (v' : Value), Ending.returned v = .returned v' ∧ Γ''.w = Γ'.w ∧ Step ql Γ.w.heap.size Γ Γ'' ∧ Inv Γ'' Γ.w.heap.size { sl := [packRes cs'], bx := [], tk := [], gl := s'.gl, ro } { tmps := #[v'], defers := [] } by
      split at h
      · rename_i hro
        rw [Option.bind_eq_some_iff] at h
        obtain ⟨cs2, hset, h⟩ := h
        split at h
        · rename_i hb
          cases h
          obtain ⟨v, k2, Γ'', v', k3, k4, k5, k6⟩ := key
          have kp := kept (by simp [initA, hro]) hev
          simp only [initA, hro, if_true] at kp
          refine ⟨v, k2, Γ''.drop gl.length, v', k3, k4, ⟨k5.os, k5.tape, k5.output, k5.size, k5.old, fun a ha => ⟨.inl (k5.F a ha).1, (k5.F a ha).2⟩, fun a ha => ?_, Nat.le_of_eq hI.ng, k5.glb, fun g hg hno => ?_, k5.drawn⟩, ?_⟩
          · rcases ha with ha | ⟨o, h1, h2, h3⟩
            · exact k5.Fnew a ha
            · by_cases hlt : a.block < Γ.w.heap.size
              · by_cases hno : ∀ o, Γ.own a.block ≠ some (.glo o)
                · rw [k5.own _ hlt hno] at h3
                  exact absurd h3 (hno o)
                · obtain ⟨o', h4⟩ := Classical.not_forall.1 hno
                  exact .inr (.inr ⟨o', Classical.not_not.1 h4⟩)
              · exact .inr (.inl (by omega))
          · show dropOwn gl.length Γ''.ng (Γ''.own g) = _
            rw [k5.own g hg hno]
            have := hno
            cases hgo : Γ.own g with
            | none => rfl
            | some ow => cases ow with
              | glo o => exact absurd hgo (hno o)
              | _ => rfl
          have hlen2 : ∀ (xs ys : List C), settleCs s'.gl gl.length xs = some ys → xs.length = ys.length := by
            intro xs
            induction xs with
            | nil => intro ys h; simp only [settleCs, Option.some.injEq] at h; subst h; rfl
            | cons x r ih =>
              intro ys h
              simp only [settleCs, Option.bind_eq_some_iff, Option.map_eq_some_iff] at h
              obtain ⟨c, hc, q, hq, rfl⟩ := h
              simp [ih q hq]
          refine k6.drop rfl (by have := kp.1; simpa using this) (fun u hu => pack_settle hu (hlen2 _ _ hset) _ fun vs hvs => settleCs_sound k6 hvs hset hb) (fun ds hds d hd => ?_)
          obtain ⟨o, hlt, rfl⟩ := List.getElem_of_mem hds
          have hce : gl[o] ≠ [] := fun e => by rw [e] at hd; simp at hd
          obtain ⟨us, ty, e1, e3, e4, e5, e6⟩ := hI.globs o _ (List.getElem?_eq_getElem hlt) hce
          obtain ⟨i, hi, rfl⟩ := List.getElem_of_mem hd
          have hi' : i < (us.toList.take gl[o].length).length := by rw [e3.1]; exact hi
          have := (e3.2 i _ _ (List.getElem?_eq_getElem hi') (List.getElem?_eq_getElem hi)).below
          rwa [hI.ng] at this
        · cases h
      · cases h
        exact key
    clear h
    obtain ⟨vs, hvs, hv⟩ := results_sound hI' _ _ hcs
    have hv' := expoCs_sound2 hv hcs'
    refine ⟨if hh : vs.toArray.size = 1 then vs.toArray[0] else .tuple vs.toArray, ?_, Γ'.calm, _, rfl, rfl, ?_, ?_⟩
    · rw [results_eq, Sem.run_bind, Array.mapM_eq_mapM_toList, Sem.run_map, hvs]
      rfl
    · exact ⟨st.os, st.tape, st.output, st.size, st.old, st.F, st.Fnew, st.ng, st.glb, st.own, st.drawn⟩
    · refine ⟨Marks.nil, rfl, fun i v x hvi hx => ?_, fun _ => rfl, fun k => by simp [Ctx.calm, look], hI'.ng, fun k cs hk => by simp [look] at hk, fun k t hk => by simp [look] at hk, fun o cs ho hce => ?_, hI'.fix, hI'.ownlt, hI'.base, fun k p hk => by simp [look] at hk⟩
      · have hi : i = 0 := by
          have := (List.getElem?_eq_some_iff.1 hx).1
          simpa using this
        subst hi
        simp only [List.getElem?_cons_zero, Option.some.injEq] at hx
        subst hx
        have hve : (if hh : vs.toArray.size = 1 then vs.toArray[0] else Value.tuple vs.toArray) = v := by simpa using hvi
        rw [← hve]
        have hl := hv'.1
        split
        · rename_i h1
          have h1' : vs.length = 1 := by simpa using h1
          obtain ⟨u, rfl⟩ := List.length_eq_one_iff.1 h1'
          obtain ⟨c, rfl⟩ := List.length_eq_one_iff.1 (hl.symm.trans h1')
          exact hv'.2 0 u c rfl rfl
        · rename_i h1
          have h1' : vs.length ≠ 1 := by simpa using h1
          have : packRes cs' = .tup cs' := by
            rw [hl] at h1'
            cases cs' with
            | nil => rfl
            | cons c r => cases r with
              | nil => exact absurd rfl h1'
              | cons d r => rfl
          rw [this]
          exact ⟨vs.toArray, rfl, by simpa using hv'⟩
      · obtain ⟨us, ty, e1, e3, e4, e5, e6⟩ := hI'.globs o cs ho hce
        exact ⟨us, ty, e1, ⟨e3.1, fun i u b hu hb => RW.calm (e3.2 i u b hu hb) (e6.1 b (List.mem_of_getElem? hb))⟩, e4, e5, e6⟩
  have out : ((resA P s' fn.results.toList).bind fun cs => (expoCs cs).bind fun cs => if cfg.ro fid then (settleCs s'.gl gl.length cs).bind fun cs => (if cs.all (C.below gl.length) then some (packRes cs, gl) else none) else some (packRes cs, s'.gl)) = some r →
      LeavesInM (Fr none) 0 P fn a'.tmps (fun e w' => ∃ (Γ' : Ctx) (v : Value), e = .returned v ∧ Γ'.w = w' ∧ Step ql Γ.w.heap.size Γ Γ' ∧ Inv Γ' Γ.w.heap.size { sl := [r.1], bx := [], tk := [], gl := r.2, ro } { tmps := #[v], defers := [] }) a'.defers .returning Γ'.w := fun h => by
    obtain ⟨ds, e0, hnd, hds⟩ := hI'.defers
    rw [e0]
    refine leave_marks (s := s') ?_ ds st { hI' with defers := Marks.nil } hnd hds
    intro Γ2 st2 hI2
    rw [LeavesIn]
    exact fin st2 hI2 h
  cases e with
  | normal => exact out hend
  | ret => exact out hend
  | exit id => simp [endA] at hend

theorem evF_sound {cfg : Cfg} {ext : Nat → Option Caller} (hm : Base P cfg) (hx : ∀ f g, ext f = some g → Sound P ql (fun f' => if f' = f then g f' else fun _ _ _ => none)) : ∀ n, Sound P ql (evF P cfg ext n) := by
  intro n
  induction n with
  | zero => intro f args ro gl r h; simp [evF] at h
  | succ n ih =>
    intro f args ro gl r h
    simp only [evF] at h
    split at h
    · rename_i g hg
      have := hx f g hg f args ro gl r (by simpa using h)
      exact this
    · rw [Option.bind_eq_some_iff] at h
      obtain ⟨fn, hfn, h⟩ := h
      split at h
      rotate_left
      · cases h
      · rename_i hok
        have hname : fn.name ≠ "runtime.NumGoroutine" := by simp only [fnOk, Bool.and_eq_true] at hok; simpa using hok.1
        refine ⟨.inl ⟨⟨fn, hfn, by simpa using hname, ?_⟩, fun Γ vals hI => body_sound hm ih n hfn hok h hI⟩, ?_⟩
        · unfold bodyA at h
          cases hb : fn.body with
          | none => rw [hb] at h; simp at h
          | some c => rfl
        · intro hle
          unfold bodyA at h
          simp only [Option.bind_eq_some_iff] at h
          obtain ⟨c, hcode, r0, hev, hend⟩ := h
          have kp := evC_ro (fun f args ro gl r h => (ih f args ro gl r h).2) n c (s := initA fn args (if cfg.ro f then gl.length else ro) gl) (by simp only [initA]; split <;> omega) hev
          unfold endA at hend
          split at hend
          · cases hend
          · simp only [Option.bind_eq_some_iff] at hend
            obtain ⟨cs, hcs, cs', hcs', hend⟩ := hend
            split at hend
            · rw [Option.bind_eq_some_iff] at hend
              obtain ⟨cs2, hset, hend⟩ := hend
              split at hend
              · cases hend
                exact ⟨rfl, hle⟩
              · cases hend
            · rename_i hro
              cases hend
              simp only [initA, hro] at kp
              exact ⟨kp.1, kp.2.2⟩
theorem evF_left {cfg : Cfg} {ext : Nat → Option Caller} (hm : Base P cfg) (hx : ∀ f g, ext f = some g → Sound P ql (fun f' => if f' = f then g f' else fun _ _ _ => none)) {f n : Nat} (hf : ext f = none) {args : List C} {ro : Nat} {gl : List (List W)} {r : V × List (List W)}
    (h : evF P cfg ext n f args ro gl = some r) : ∀ (Γ : Ctx) (vals : List Value), Inv Γ Γ.w.heap.size { sl := args.map .c, bx := [], tk := [], gl, ro } { tmps := vals.toArray, defers := [] } →
    Calls P f vals.toArray Γ.w fun e w' => ∃ (Γ' : Ctx) (v : Value), e = .returned v ∧ Γ'.w = w' ∧ Step ql Γ.w.heap.size Γ Γ' ∧ Inv Γ' Γ.w.heap.size { sl := [r.1], bx := [], tk := [], gl := r.2, ro } { tmps := #[v], defers := [] } := by
  cases n with
  | zero => simp [evF] at h
  | succ n =>
    simp only [evF, hf, Option.bind_eq_some_iff] at h
    obtain ⟨fn, hfn, h⟩ := h
    split at h
    · rename_i hok
      exact fun Γ vals hI => body_sound hm (evF_sound hm hx n) n hfn hok h hI
    · cases h
end
end Go.Proofs.YtckonoejmjblfaaGreatDoor.Ev
