/- Layer 7: what expressions come to: the parts. -/
import Derived.Test.YtckonoejmjblfaaGreatDoorPkChk
import Derived.Test.YtckonoejmjblfaaGreatDoorPkNam
import Derived.Test.YtckonoejmjblfaaGreatDoorPkNum
import Derived.Test.YtckonoejmjblfaaGreatDoorPkOrd
set_option linter.unusedVariables false
set_option linter.unusedSimpArgs false
set_option maxRecDepth 100000
set_option maxHeartbeats 4000000
namespace Go.Proofs.YtckonoejmjblfaaGreatDoor.Ev
open Go Go.RowKit

/-- A variable. -/
structure Vr where
  name : List UInt8
  lo : Int
  hi : Int
  init : Int
deriving DecidableEq
def Vr.c (v : Vr) : List D := [.str v.name, .int .i64 v.lo, .int .i64 v.hi, .int .i64 v.init]
def Vr.w (v : Vr) : C := .agg (v.c.map .d)
/-- What expressions are reckoned by. -/
structure En where
  vars : List Vr
  vals : Q4
  ins : List (List UInt8)
def En.ws (e : En) : List W := [.d (.sl (e.vars.map Vr.c)), .d (.int .i64 e.vals.a), .d (.int .i64 e.vals.b), .d (.int .i64 e.vals.c), .d (.int .i64 e.vals.d), .d (.sl (e.ins.map sD))]
def En.w (e : En) : C := .agg e.ws
def bitI (b : Bool) : Int := if b then 1 else 0
theorem bit_ev (b : Bool) : Gives 272 [B b] (V.int .i64 (bitI b)) := by
  refine .intro Tryz.func272 (by kernel_rfl) (Evt.of fun k ro gl => ?_)
  cases b <;> simp -implicitDefEqProofs [Tryz.f272, bitI]
/-- What a term comes to of two numbers. -/
def twoI (op a b : Int) : Int :=
  if op = 4 then near (near a + near b) else if op = 5 then near (near a - near b) else if op = 6 then near (near a * near b)
  else if op = 7 ∨ op = 19 then (if b < a then b else a) else if op = 8 ∨ op = 20 then (if a < b then b else a)
  else if op = 13 then bitI (decide (a = b)) else if op = 14 then bitI (a != b) else if op = 15 then bitI (decide (a < b)) else if op = 16 then bitI (decide (a ≤ b)) else if op = 17 then bitI (decide (b < a)) else bitI (decide (b ≤ a))
theorem twoE_ev (op a b : Int) : Gives 238 [I op, I a, I b] (V.int .i64 (twoI op a b)) := by
  have h1 := Plus_ev a b
  have h2 := Minus_ev a b
  have h3 := Times_ev a b
  have h4 := bit_ev (decide (a = b))
  have h5 := bit_ev (a != b)
  have h6 := bit_ev (decide (a < b))
  have h7 := bit_ev (decide (a ≤ b))
  have h8 := bit_ev (decide (b < a))
  have h9 := bit_ev (decide (b ≤ a))
  refine .intro Tryz.func238 (by kernel_rfl) ((h1.and (h2.and (h3.and (h4.and (h5.and (h6.and (h7.and (h8.and h9)))))))).imp fun k ⟨h1, h2, h3, h4, h5, h6, h7, h8, h9⟩ ro gl => ?_)
  unfold twoI
  by_cases c4 : op = 4
  · simp -implicitDefEqProofs [Tryz.f238, c4, h1]
  by_cases c5 : op = 5
  · simp -implicitDefEqProofs [Tryz.f238, c5, h2]
  by_cases c6 : op = 6
  · simp -implicitDefEqProofs [Tryz.f238, c6, h3]
  by_cases c7 : op = 7
  · simp -implicitDefEqProofs [Tryz.f238, c7]
  by_cases c19 : op = 19
  · simp -implicitDefEqProofs [Tryz.f238, c19]
  by_cases c8 : op = 8
  · simp -implicitDefEqProofs [Tryz.f238, c8]
  by_cases c20 : op = 20
  · simp -implicitDefEqProofs [Tryz.f238, c20]
  by_cases c13 : op = 13
  · simp -implicitDefEqProofs [Tryz.f238, c13, h4]
  by_cases c14 : op = 14
  · simp -implicitDefEqProofs [Tryz.f238, c14, h5]
  by_cases c15 : op = 15
  · simp -implicitDefEqProofs [Tryz.f238, c15, h6]
  by_cases c16 : op = 16
  · simp -implicitDefEqProofs [Tryz.f238, c16, h7]
  by_cases c17 : op = 17
  · simp -implicitDefEqProofs [Tryz.f238, c17, h8]
  · simp -implicitDefEqProofs [Tryz.f238, c4, c5, c6, c7, c19, c8, c20, c13, c14, c15, c16, c17, h9]
end Go.Proofs.YtckonoejmjblfaaGreatDoor.Ev

/- Layers 5 and 7: types, what expressions come to: the plain words. -/
set_option linter.unusedVariables false
set_option linter.unusedSimpArgs false
set_option maxRecDepth 100000
set_option maxHeartbeats 4000000
namespace Go.Proofs.YtckonoejmjblfaaGreatDoor.Ev
open Go Go.RowKit

/-- What a term takes, what it gives. -/
def tyT (op : Int) : Int := if op ≤ 8 then 1 else if op ≤ 12 ∨ 19 ≤ op then 2 else 1
def tyG (op : Int) : Int := if op ≤ 8 then 1 else 2
def tyM (op : Int) (below : List Int) : Int := if (below.all fun x => decide (x = tyT op)) = true then tyG op else 0
def Tr.ty (e : Tr) : Int := e.fo tyM
def tyV (l : List Tm) : Int := foldD tyM l
/-- The place of a variable. -/
def placeV (vs : List Vr) (s : List UInt8) : Int := ixV (vs.findIdx? fun v => decide (v.name = s))
def Q4.get (q : Q4) (i : Int) : Int := if i = 0 then q.a else if i = 1 then q.b else if i = 2 then q.c else q.d
def Q4.set (q : Q4) (i : Int) (x : Int) : Q4 := if i = 0 then { q with a := x } else if i = 1 then { q with b := x } else if i = 2 then { q with c := x } else { q with d := x }
def leafI (en : En) (t : Tm) : Int := if t.op = 1 then t.n else if t.op = 2 then near (en.vals.get (placeV en.vars t.name)) else if t.op = 11 then bitI (decide (0 ≤ place en.ins t.name 0)) else bitI (decide (t.op = 9))
def oneI (op x : Int) : Int := if op = 3 then near (near 0 - near x) else 1 - x
def Tr.val (en : En) : Tr → Int
  | .leaf t => leafI en t
  | .one t a => oneI t.op (a.val en)
  | .two t a b => twoI t.op (a.val en) (b.val en)
def valV (l : List Tm) (en : En) : Int := match stk l with
  | some [e] => e.val en
  | _ => 0
theorem valV_eq {e : Tr} (h : e.wf) {l : List Tm} (hl : l = e.flat) (en : En) : valV l en = e.val en := by rw [hl]; unfold valV; rw [stk_whole e h]
theorem tyV_eq {e : Tr} (h : e.wf) {l : List Tm} (hl : l = e.flat) (h40 : l.length ≤ 40) : tyV l = e.ty := by
  subst hl
  exact foldD_tree tyM e h h40
/-- Why an expression comes to nothing. -/
def noneV (l : List Tm) (vs : List Vr) : Bool := l.any fun t => decide (t.op = 2 ∧ placeV vs t.name < 0)
def evalE (l : List Tm) (vs : List Vr) : Int := if 4 < vs.length then 1 else if checkV l ≠ 0 then checkV l else if tyV l = 0 then 4 else if noneV l vs = true then 7 else 0
theorem arity0_op {x : Int} (h : arity x = 0) : x = 1 ∨ x = 2 ∨ x = 9 ∨ x = 10 ∨ x = 11 := by
  unfold arity at h
  repeat' split at h
  all_goals first | (exfalso; omega) | omega
theorem arity1_op {x : Int} (h : arity x = 1) : x = 3 ∨ x = 12 := by
  unfold arity at h
  repeat' split at h
  all_goals first | (exfalso; omega) | omega
theorem arity2_op {x : Int} (h : arity x = 2) : x = 4 ∨ x = 5 ∨ x = 6 ∨ x = 7 ∨ x = 8 ∨ x = 13 ∨ x = 14 ∨ x = 15 ∨ x = 16 ∨ x = 17 ∨ x = 18 ∨ x = 19 ∨ x = 20 := by
  unfold arity at h
  repeat' split at h
  all_goals first | (exfalso; omega) | omega
theorem bitI_01 (b : Bool) : bitI b = 0 ∨ bitI b = 1 := by cases b <;> simp [bitI]
theorem ty_one {t : Tm} {a : Tr} (h : (Tr.one t a).ty ≠ 0) : a.ty = tyT t.op ∧ (Tr.one t a).ty = tyG t.op ∧ a.ty ≠ 0 := by
  simp only [Tr.ty, Tr.fo, tyM, List.all_cons, List.all_nil, Bool.and_true, decide_eq_true_eq] at h ⊢
  split at h
  · rename_i h1
    refine ⟨h1, if_pos h1, ?_⟩
    have hne : tyT t.op ≠ 0 := by
      unfold tyT
      repeat' split
      all_goals decide
    exact fun h0 => hne (h1.symm.trans h0)
  · exact absurd rfl h
theorem ty_two {t : Tm} {a b : Tr} (h : (Tr.two t a b).ty ≠ 0) : a.ty = tyT t.op ∧ b.ty = tyT t.op ∧ (Tr.two t a b).ty = tyG t.op ∧ a.ty ≠ 0 ∧ b.ty ≠ 0 := by
  have hne : tyT t.op ≠ 0 := by
    unfold tyT
    repeat' split
    all_goals decide
  simp only [Tr.ty, Tr.fo, tyM, List.all_cons, List.all_nil, Bool.and_true, Bool.and_eq_true, decide_eq_true_eq] at h ⊢
  split at h
  · rename_i h1
    have h1' : a.fo tyM = tyT t.op ∧ b.fo tyM = tyT t.op := h1
    refine ⟨h1.1, h1.2, if_pos h1, ?_, ?_⟩
    · intro h0; exact hne (h1.1.symm.trans h0)
    · intro h0; exact hne (h1.2.symm.trans h0)
  · exact absurd rfl h
/-- What a well typed expression comes to. -/
theorem val_ok (en : En) : ∀ (e : Tr), e.wf → (∀ t ∈ e.flat, t.may = true) → e.ty ≠ 0 → (-1000000 ≤ e.val en ∧ e.val en ≤ 1000000) ∧ (e.ty = 2 → e.val en = 0 ∨ e.val en = 1)
  | .leaf t, hw, hm, ht => by
    simp only [Tr.wf] at hw
    have hmay := hm t (by simp [Tr.flat])
    have hty : (Tr.leaf t).ty = tyG t.op := by simp [Tr.ty, Tr.fo, tyM]
    rw [hty]
    unfold Tr.val leafI
    rcases arity0_op hw with h | h | h | h | h
    · unfold Tm.may at hmay
      rw [if_pos h] at hmay
      simp only [Bool.and_eq_true, decide_eq_true_eq] at hmay
      rw [if_pos h, h]
      exact ⟨by omega, fun h2 => by simp [tyG] at h2⟩
    · rw [if_neg (by omega), if_pos h, h]
      exact ⟨near_le _, fun h2 => by simp [tyG] at h2⟩
    · rw [if_neg (by omega), if_neg (by omega), if_neg (by omega)]
      have := bitI_01 (decide (t.op = 9))
      exact ⟨by omega, fun _ => this⟩
    · rw [if_neg (by omega), if_neg (by omega), if_neg (by omega)]
      have := bitI_01 (decide (t.op = 9))
      exact ⟨by omega, fun _ => this⟩
    · rw [if_neg (by omega), if_neg (by omega), if_pos (by omega)]
      have := bitI_01 (decide (0 ≤ place en.ins t.name 0))
      exact ⟨by omega, fun _ => this⟩
  | .one t a, hw, hm, ht => by
    simp only [Tr.wf] at hw
    obtain ⟨t1, t2, t3⟩ := ty_one ht
    obtain ⟨b1, b2⟩ := val_ok en a hw.2 (fun u hu => hm u (by simp [Tr.flat, hu])) t3
    rw [t2]
    unfold Tr.val oneI
    rcases arity1_op hw.1 with h | h
    · rw [if_pos h, h]
      exact ⟨near_le _, fun h2 => by simp [tyG] at h2⟩
    · rw [if_neg (by omega)]
      rw [h] at t1
      have := b2 (by rw [t1]; simp [tyT])
      exact ⟨by omega, fun _ => by omega⟩
  | .two t a b, hw, hm, ht => by
    simp only [Tr.wf] at hw
    obtain ⟨t1, t2, t3, t4, t5⟩ := ty_two ht
    obtain ⟨b1, b2⟩ := val_ok en a hw.2.1 (fun u hu => hm u (by simp [Tr.flat, hu])) t4
    obtain ⟨c1, c2⟩ := val_ok en b hw.2.2 (fun u hu => hm u (by simp [Tr.flat, hu])) t5
    rw [t3]
    unfold Tr.val twoI
    generalize a.val en = x at b1 b2 ⊢
    generalize b.val en = y at c1 c2 ⊢
    rcases arity2_op hw.1 with h | h | h | h | h | h | h | h | h | h | h | h | h
    · rw [if_pos h, h]
      exact ⟨near_le _, fun h2 => by simp [tyG] at h2⟩
    · rw [if_neg (by omega), if_pos h, h]
      exact ⟨near_le _, fun h2 => by simp [tyG] at h2⟩
    · rw [if_neg (by omega), if_neg (by omega), if_pos h, h]
      exact ⟨near_le _, fun h2 => by simp [tyG] at h2⟩
    · rw [if_neg (by omega), if_neg (by omega), if_neg (by omega), if_pos (by omega), h]
      exact ⟨by split <;> omega, fun h2 => by simp [tyG] at h2⟩
    · rw [if_neg (by omega), if_neg (by omega), if_neg (by omega), if_neg (by omega), if_pos (by omega), h]
      exact ⟨by split <;> omega, fun h2 => by simp [tyG] at h2⟩
    · rw [if_neg (by omega), if_neg (by omega), if_neg (by omega), if_neg (by omega), if_neg (by omega), if_pos (by omega)]
      have := bitI_01 (decide (x = y))
      exact ⟨by omega, fun _ => by omega⟩
    · rw [if_neg (by omega), if_neg (by omega), if_neg (by omega), if_neg (by omega), if_neg (by omega), if_neg (by omega), if_pos (by omega)]
      have := bitI_01 (x != y)
      exact ⟨by omega, fun _ => by omega⟩
    · rw [if_neg (by omega), if_neg (by omega), if_neg (by omega), if_neg (by omega), if_neg (by omega), if_neg (by omega), if_neg (by omega), if_pos (by omega)]
      have := bitI_01 (decide (x < y))
      exact ⟨by omega, fun _ => by omega⟩
    · rw [if_neg (by omega), if_neg (by omega), if_neg (by omega), if_neg (by omega), if_neg (by omega), if_neg (by omega), if_neg (by omega), if_neg (by omega), if_pos (by omega)]
      have := bitI_01 (decide (x ≤ y))
      exact ⟨by omega, fun _ => by omega⟩
    · rw [if_neg (by omega), if_neg (by omega), if_neg (by omega), if_neg (by omega), if_neg (by omega), if_neg (by omega), if_neg (by omega), if_neg (by omega), if_neg (by omega), if_pos (by omega)]
      have := bitI_01 (decide (y < x))
      exact ⟨by omega, fun _ => by omega⟩
    · rw [if_neg (by omega), if_neg (by omega), if_neg (by omega), if_neg (by omega), if_neg (by omega), if_neg (by omega), if_neg (by omega), if_neg (by omega), if_neg (by omega), if_neg (by omega)]
      have := bitI_01 (decide (y ≤ x))
      exact ⟨by omega, fun _ => by omega⟩
    · rw [h] at t1 t2
      have q1 := b2 (by rw [t1]; simp [tyT])
      have q2 := c2 (by rw [t2]; simp [tyT])
      rw [if_neg (by omega), if_neg (by omega), if_neg (by omega), if_pos (by omega), h]
      exact ⟨by split <;> omega, fun _ => by split <;> omega⟩
    · rw [h] at t1 t2
      have q1 := b2 (by rw [t1]; simp [tyT])
      have q2 := c2 (by rw [t2]; simp [tyT])
      rw [if_neg (by omega), if_neg (by omega), if_neg (by omega), if_neg (by omega), if_pos (by omega), h]
      exact ⟨by split <;> omega, fun _ => by split <;> omega⟩
/-- The stack of what terms come to, from the last one on. -/
def onePr (op x : Int) : Int := if op = 3 then near (near 0 - near x) else IntKind.i64.wrap (1 - x)
def runT (en : En) (t : Tm) (s : List Int) : Option (List Int) :=
  if arity t.op = 0 then some (leafI en t :: s)
  else if arity t.op = 1 then (match s with | a :: s' => some (onePr t.op a :: s') | [] => none)
  else if arity t.op = 2 then (match s with | a :: b :: s' => some (twoI t.op a b :: s') | _ => none)
  else none
def runZ (en : En) : List Tm → List Int → Option (List Int)
  | [], s => some s
  | t :: r, s => (runZ en r s).bind (runT en t)
theorem runS_app (en : En) : ∀ (p r : List Tm) (s : List Int), runZ en (p ++ r) s = (runZ en r s).bind (runZ en p)
  | [], r, s => by cases h : runZ en r s <;> simp [h, runZ]
  | t :: p, r, s => by
    rw [List.cons_append, runZ, runS_app en p r s]
    cases runZ en r s <;> simp [runZ]
theorem runS_tree (en : En) : ∀ (e : Tr), e.wf → (∀ t ∈ e.flat, t.may = true) → e.ty ≠ 0 → ∀ s, runZ en e.flat s = some (e.val en :: s)
  | .leaf t, h, hm, ht, s => by
    simp only [Tr.wf] at h
    simp [Tr.flat, runZ, runT, h, Tr.val]
  | .one t a, h, hm, ht, s => by
    simp only [Tr.wf] at h
    obtain ⟨t1, t2, t3⟩ := ty_one ht
    have hm' : ∀ u ∈ a.flat, u.may = true := fun u hu => hm u (by simp [Tr.flat, hu])
    obtain ⟨b1, b2⟩ := val_ok en a h.2 hm' t3
    have e : onePr t.op (a.val en) = oneI t.op (a.val en) := by
      unfold onePr oneI
      rcases arity1_op h.1 with c | c
      · rw [if_pos c, if_pos c]
      · rw [if_neg (by omega), if_neg (by omega), IntWalk.i64_in _ (by omega)]
    simp [Tr.flat, runZ, runS_tree en a h.2 hm' t3 s, runT, h.1, Tr.val, e]
  | .two t a b, h, hm, ht, s => by
    simp only [Tr.wf] at h
    obtain ⟨t1, t2, t3, t4, t5⟩ := ty_two ht
    have hm1 : ∀ u ∈ a.flat, u.may = true := fun u hu => hm u (by simp [Tr.flat, hu])
    have hm2 : ∀ u ∈ b.flat, u.may = true := fun u hu => hm u (by simp [Tr.flat, hu])
    simp [Tr.flat, runZ, runS_app, runS_tree en b h.2.2 hm2 t5 s, runS_tree en a h.2.1 hm1 t4, runT, h.1, Tr.val]
theorem placeV_lt4 {vs : List Vr} {s : List UInt8} (h : 0 ≤ placeV vs s) : (placeV vs s).toNat < vs.length ∧ placeV vs s < vs.length := by
  unfold placeV at h ⊢
  cases hf : vs.findIdx? (fun v => decide (v.name = s)) with
  | none => rw [hf] at h; simp [ixV] at h
  | some j =>
    have : j < vs.length := (List.findIdx?_eq_some_iff_findIdx_eq.1 hf).1
    simp only [ixV]
    omega
end Go.Proofs.YtckonoejmjblfaaGreatDoor.Ev

/- Rows of values: in order, each once. -/
set_option linter.unusedVariables false
set_option linter.unusedSimpArgs false
namespace Go.Proofs.YtckonoejmjblfaaGreatDoor.Ev
open Go Go.RowKit

/-- Values stand ahead of others. -/
def ltQ (p q : Q4) : Bool := decide (cmpL p.l q.l < 0)
theorem ltQ_iff (p q : Q4) : ltQ p q = true ↔ p.a < q.a ∨ (p.a = q.a ∧ (p.b < q.b ∨ (p.b = q.b ∧ (p.c < q.c ∨ (p.c = q.c ∧ p.d < q.d))))) := by
  unfold ltQ
  rw [decide_eq_true_eq, cmp_lt]
theorem ltQ_trans {p q r : Q4} (h : ltQ p q = true) (k : ltQ q r = true) : ltQ p r = true := by
  rw [ltQ_iff] at *
  omega
theorem ltQ_irr (p : Q4) : ltQ p p = false := by
  cases h : ltQ p p with
  | false => rfl
  | true => rw [ltQ_iff] at h; omega
theorem Q4.same {p q : Q4} (h1 : p.a = q.a) (h2 : p.b = q.b) (h3 : p.c = q.c) (h4 : p.d = q.d) : p = q := by
  cases p; cases q; simp only at h1 h2 h3 h4; subst h1 h2 h3 h4; rfl
theorem ltQ_tot {p q : Q4} (h : ltQ p q = false) (n : p ≠ q) : ltQ q p = true := by
  have h' : ¬ ltQ p q = true := by simp [h]
  rw [ltQ_iff] at h' ⊢
  refine Decidable.byContradiction fun h'' => n (Q4.same ?_ ?_ ?_ ?_) <;> omega
/-- Values with others put where they stand, if they are not there yet. -/
def withQ : List Q4 → Q4 → List Q4
  | [], x => [x]
  | y :: r, x => if ltQ y x then y :: withQ r x else if y = x then y :: r else x :: y :: r
def Strict (l : List Q4) : Prop := l.Pairwise fun a b => ltQ a b = true
theorem withQ_mem (x : Q4) : ∀ (l : List Q4) (y : Q4), y ∈ withQ l x ↔ y = x ∨ y ∈ l
  | [], y => by simp [withQ]
  | z :: r, y => by
    unfold withQ
    split
    · simp only [List.mem_cons, withQ_mem x r y]
      constructor
      · rintro (h | h | h)
        · exact .inr (.inl h)
        · exact .inl h
        · exact .inr (.inr h)
      · rintro (h | h | h)
        · exact .inr (.inl h)
        · exact .inl h
        · exact .inr (.inr h)
    · split
      · rename_i h; subst h; simp
      · simp
theorem withQ_strict (x : Q4) : ∀ (l : List Q4), Strict l → Strict (withQ l x)
  | [], _ => by simp [withQ, Strict]
  | z :: r, h => by
    have h1 := (List.pairwise_cons.1 h).1
    have h2 := (List.pairwise_cons.1 h).2
    unfold withQ
    split
    · rename_i hz
      refine List.pairwise_cons.2 ⟨fun y hy => ?_, withQ_strict x r h2⟩
      rcases (withQ_mem x r y).1 hy with rfl | hy
      · exact hz
      · exact h1 y hy
    · rename_i hz
      split
      · exact h
      · rename_i hne
        have hzx : ltQ x z = true := ltQ_tot (by simpa using hz) hne
        refine List.pairwise_cons.2 ⟨fun y hy => ?_, h⟩
        rcases List.mem_cons.1 hy with rfl | hy
        · exact hzx
        · exact ltQ_trans hzx (h1 y hy)
theorem fold_strict : ∀ (xs acc : List Q4), Strict acc → Strict (xs.foldl withQ acc) ∧ ∀ y, y ∈ xs.foldl withQ acc ↔ y ∈ xs ∨ y ∈ acc
  | [], acc, h => ⟨h, fun y => by simp⟩
  | x :: r, acc, h => by
    obtain ⟨h1, h2⟩ := fold_strict r (withQ acc x) (withQ_strict x acc h)
    refine ⟨h1, fun y => ?_⟩
    rw [List.foldl_cons, h2, withQ_mem, List.mem_cons]
    constructor
    · rintro (h | h | h)
      · exact .inl (.inr h)
      · exact .inl (.inl h)
      · exact .inr h
    · rintro ((h | h) | h)
      · exact .inr (.inl h)
      · exact .inl h
      · exact .inr (.inr h)
/-- Values each once. -/
def compQ : List Q4 → List Q4
  | [] => []
  | [a] => [a]
  | a :: b :: r => if a = b then compQ (b :: r) else a :: compQ (b :: r)
theorem compQ_mem : ∀ (l : List Q4) (y : Q4), y ∈ compQ l ↔ y ∈ l
  | [], y => by simp [compQ]
  | [a], y => by simp [compQ]
  | a :: b :: r, y => by
    unfold compQ
    split
    · rename_i h; subst h; rw [compQ_mem (a :: r) y]; simp
    · simp only [List.mem_cons, compQ_mem (b :: r) y]
theorem compQ_strict : ∀ (l : List Q4), l.Pairwise (fun a b => ltQ b a = false) → Strict (compQ l)
  | [], _ => by simp [compQ, Strict]
  | [a], _ => by simp [compQ, Strict]
  | a :: b :: r, h => by
    have h1 := (List.pairwise_cons.1 h).1
    have h2 := (List.pairwise_cons.1 h).2
    unfold compQ
    split
    · exact compQ_strict (b :: r) h2
    · rename_i hne
      have ih := compQ_strict (b :: r) h2
      refine List.pairwise_cons.2 ⟨fun y hy => ?_, ih⟩
      rw [compQ_mem] at hy
      have hab : ltQ a b = true := ltQ_tot (h1 b (by simp)) fun e => hne e.symm
      by_cases hyb : y = b
      · rw [hyb]; exact hab
      · have hb : ltQ b y = true := by
          rcases List.mem_cons.1 hy with rfl | hy
          · exact absurd rfl hyb
          · exact ltQ_tot ((List.pairwise_cons.1 h2).1 y hy) hyb
        exact ltQ_trans hab hb
theorem strict_eq : ∀ (l m : List Q4), Strict l → Strict m → (∀ y, y ∈ l ↔ y ∈ m) → l = m
  | [], [], _, _, _ => rfl
  | [], b :: m, _, _, h => by have := (h b).2 (by simp); simp at this
  | a :: l, [], _, _, h => by have := (h a).1 (by simp); simp at this
  | a :: l, b :: m, hl, hm, h => by
    have l1 := (List.pairwise_cons.1 hl).1
    have m1 := (List.pairwise_cons.1 hm).1
    have hab : a = b := by
      refine Decidable.byContradiction fun n => ?_
      have ha : a ∈ m := by
        have := (h a).1 (by simp)
        rcases List.mem_cons.1 this with e | e
        · exact absurd e n
        · exact e
      have hb : b ∈ l := by
        have := (h b).2 (by simp)
        rcases List.mem_cons.1 this with e | e
        · exact absurd e.symm n
        · exact e
      have := ltQ_trans (l1 b hb) (m1 a ha)
      rw [ltQ_irr] at this
      cases this
    subst hab
    rw [strict_eq l m (List.pairwise_cons.1 hl).2 (List.pairwise_cons.1 hm).2 fun y => ?_]
    constructor
    · intro hy
      rcases List.mem_cons.1 ((h y).1 (List.mem_cons_of_mem _ hy)) with rfl | e
      · have := l1 _ hy
        rw [ltQ_irr] at this
        cases this
      · exact e
    · intro hy
      rcases List.mem_cons.1 ((h y).2 (List.mem_cons_of_mem _ hy)) with rfl | e
      · have := m1 _ hy
        rw [ltQ_irr] at this
        cases this
      · exact e
theorem sortQ_pw (l : List Q4) : (sortQ l).Pairwise (fun a b => ltQ b a = false) := by
  have h := List.pairwise_mergeSort (le := fun x y : Q4 => !ltQ y x) (fun a b c h1 h2 => by
      simp only [Bool.not_eq_eq_eq_not, Bool.not_true] at h1 h2 ⊢
      cases h : ltQ c a with
      | false => rfl
      | true =>
        by_cases hab : a = b
        · subst hab; rw [h] at h2; cases h2
        · have := ltQ_trans h (ltQ_tot h1 fun e => hab e.symm)
          rw [this] at h2; cases h2) (fun a b => by
      cases h : ltQ b a with
      | false => rfl
      | true =>
        cases h' : ltQ a b with
        | false => simp
        | true => have := ltQ_trans h h'; rw [ltQ_irr] at this; cases this) l
  have e : sortQ l = l.mergeSort (fun x y : Q4 => !ltQ y x) := rfl
  rw [e]
  exact h.imp fun {a b} h => by simpa using h
theorem sortQ_mem (l : List Q4) (y : Q4) : y ∈ sortQ l ↔ y ∈ l := (List.mergeSort_perm l _).mem_iff
theorem sortQ_len (l : List Q4) : (sortQ l).length = l.length := (List.mergeSort_perm l _).length_eq
/-- Sorted, each once: each put where it stands. -/
theorem comp_sort (l : List Q4) : compQ (sortQ l) = l.foldl withQ [] := by
  have h := fold_strict l [] List.Pairwise.nil
  refine strict_eq _ _ (compQ_strict _ (sortQ_pw l)) h.1 fun y => ?_
  rw [compQ_mem, sortQ_mem, h.2]
  simp
end Go.Proofs.YtckonoejmjblfaaGreatDoor.Ev
