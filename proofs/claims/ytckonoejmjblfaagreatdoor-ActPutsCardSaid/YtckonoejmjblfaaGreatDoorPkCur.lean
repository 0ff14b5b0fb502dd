/- Layer 4: cursors; what a cursor that has a fault does, or nobody's. -/
import Derived.Test.YtckonoejmjblfaaGreatDoorPkNam
import Derived.Test.YtckonoejmjblfaaGreatDoorPkNum
import Derived.Test.YtckonoejmjblfaaGreatDoorPkEvOR
set_option linter.unusedVariables false
set_option linter.unusedSimpArgs false
set_option maxRecDepth 100000
set_option maxHeartbeats 2000000
namespace Go.Proofs.YtckonoejmjblfaaGreatDoor.Ev
open Go Go.RowKit

structure Tk where
  kind : Int
  text : List UInt8
  ln : Int
  cl : Int
deriving DecidableEq
def Tk.c (t : Tk) : List D := [.int .i64 t.kind, .str t.text, .int .i64 t.ln, .int .i64 t.cl]
def Tk.w (t : Tk) : C := .agg [.d (.int .i64 t.kind), .d (.str t.text), .d (.int .i64 t.ln), .d (.int .i64 t.cl)]
def tk0 : Tk := ⟨0, [], 0, 0⟩
def was (p : List Tk) : Tk := match p.getLast? with
  | none => tk0
  | some t => ⟨0, [], t.ln, t.cl⟩
def nx (p : List Tk) : List Tk → Tk
  | [] => was p
  | t :: _ => t
def cW (p r : List Tk) (ln cl e : Int) : List W := [.d (.bool true), .d (.sl (p.map Tk.c ++ r.map Tk.c)), .d (.int .i64 p.length), .d (.int .i64 ln), .d (.int .i64 cl), .d (.int .i64 e)]
/-- The cursor as the document has it. -/
def cR (p r : List Tk) (ln cl e : Int) : C := .agg [.d (.sl (r.map Tk.c)), .d (.int .i64 (was p).ln), .d (.int .i64 (was p).cl), .d (.int .i64 ln), .d (.int .i64 cl), .d (.int .i64 e)]

/-- A cursor, or none. -/
def Obj (x : W) : Prop := x = .nil ∨ ∃ o, x = .glo o 0
/-- No cursor there is good. -/
structure Bad (G : List (List W) → W → Prop) : Prop where
  obj : ∀ gl x, G gl x → Obj x
  good : ReadsG G 32 (fun x => [.w x]) (V.bool false)
section
variable {G : List (List W) → W → Prop}
theorem next_no (hb : Bad G) : ReadsG G 33 (fun x => [.w x]) (.c tk0.w) := by
  refine .intro Tryz.func33 (by kernel_rfl) (hb.good.imp fun k h gl x hx ro => ?_)
  have h := h gl _ hx
  rcases hb.obj gl x hx with rfl | ⟨o, rfl⟩ <;>
  simp -implicitDefEqProofs [Tryz.f33, h, tk0, Tk.w]
theorem is_no (hb : Bad G) (kd : Int) (t : List UInt8) : ReadsG G 147 (fun x => [.w x, I kd, T t]) (V.bool false) := by
  refine .intro Tryz.func147 (by kernel_rfl) (hb.good.and (next_no hb) |>.imp fun k ⟨h, h1⟩ gl x hx ro => ?_)
  have h := h gl _ hx
  have h1 := h1 gl _ hx
  rcases hb.obj gl x hx with rfl | ⟨o, rfl⟩ <;>
  simp -implicitDefEqProofs [Tryz.f147, h, h1, tk0, Tk.w]
theorem take_no (hb : Bad G) (kd : Int) (t : List UInt8) : ReadsG G 83 (fun x => [.w x, I kd, T t]) (V.bool false) := by
  refine .intro Tryz.func83 (by kernel_rfl) (is_no hb kd t |>.imp fun k h gl x hx ro => ?_)
  have h := h gl _ hx
  rcases hb.obj gl x hx with rfl | ⟨o, rfl⟩ <;>
  simp -implicitDefEqProofs [Tryz.f83, h]
theorem fail_no (hb : Bad G) (e : Int) : ReadsG G 55 (fun x => [.w x, I e]) (.tup []) := by
  refine .intro Tryz.func55 (by kernel_rfl) (hb.good |>.imp fun k h gl x hx ro => ?_)
  have h := h gl _ hx
  rcases hb.obj gl x hx with rfl | ⟨o, rfl⟩ <;>
  simp -implicitDefEqProofs [Tryz.f55, h]
theorem want_no (hb : Bad G) (kd : Int) (t : List UInt8) : ReadsG G 107 (fun x => [.w x, I kd, T t]) (.tup []) := by
  refine .intro Tryz.func107 (by kernel_rfl) ((take_no hb kd t).and (fail_no hb 2) |>.imp fun k ⟨h, h1⟩ gl x hx ro => ?_)
  have h := h gl _ hx
  have h1 := h1 gl _ hx
  rcases hb.obj gl x hx with rfl | ⟨o, rfl⟩ <;>
  simp -implicitDefEqProofs [Tryz.f107, h, h1]
theorem name_no (hb : Bad G) : ReadsG G 108 (fun x => [.w x]) (V.str []) := by
  refine .intro Tryz.func108 (by kernel_rfl) ((next_no hb).and (fail_no hb 2) |>.imp fun k ⟨h, h1⟩ gl x hx ro => ?_)
  have h := h gl _ hx
  have h1 := h1 gl _ hx
  rcases hb.obj gl x hx with rfl | ⟨o, rfl⟩ <;>
  simp -implicitDefEqProofs [Tryz.f108, h, h1, tk0, Tk.w]
theorem number_no (hb : Bad G) (m : Int) : ReadsG G 217 (fun x => [.w x, I m]) (.c (I 0)) := by
  have g := Get_ev [] (by simp)
  rw [show getR [] = .tup [I 0, I 2] from rfl] at g
  refine .intro Tryz.func217 (by kernel_rfl) ((next_no hb).and ((fail_no hb 2).and (hb.good.and g)) |>.imp fun k ⟨h, h1, h2, h3⟩ gl x hx ro => ?_)
  have h := h gl _ hx
  have h1 := h1 gl _ hx
  have h2 := h2 gl _ hx
  rcases hb.obj gl x hx with rfl | ⟨o, rfl⟩ <;>
  simp -implicitDefEqProofs [Tryz.f217, h, h1, h2, h3, tk0, Tk.w]
end
theorem good_nil (gl : List (List W)) : Reads 32 [.w .nil] gl (V.bool false) := by
  refine .intro Tryz.func32 (by kernel_rfl) (.of fun k ro => ?_)
  simp -implicitDefEqProofs [Tryz.f32]
theorem good_off {gl : List (List W)} {o : Nat} {l : D} {n a b e : Int} (h : gl[o]? = some [.d (.bool false), .d l, .d (.int .i64 n), .d (.int .i64 a), .d (.int .i64 b), .d (.int .i64 e)]) : Reads 32 [.w (.glo o 0)] gl (V.bool false) := by
  refine .intro Tryz.func32 (by kernel_rfl) (.of fun k ro => ?_)
  simp -implicitDefEqProofs [Tryz.f32, h]
theorem good_ev {p r : List Tk} {ln cl e : Int} : ReadsU 32 (fun o => [.w (.glo o 0)]) (cW p r ln cl e) (V.bool (decide (e = 0))) := by
  refine .intro Tryz.func32 (by kernel_rfl) (.of fun k gl o ro h => ?_)
  simp -implicitDefEqProofs [Tryz.f32, h, cW]
theorem fault_nil (gl : List (List W)) : Reads 56 [.w .nil] gl (.tup [.agg [.d (.int .i64 0), .d (.int .i64 0)], I 10]) := by
  refine .intro Tryz.func56 (by kernel_rfl) (.of fun k ro => ?_)
  simp -implicitDefEqProofs [Tryz.f56]
theorem fault_off {gl : List (List W)} {o : Nat} {l : D} {n a b e : Int} (h : gl[o]? = some [.d (.bool false), .d l, .d (.int .i64 n), .d (.int .i64 a), .d (.int .i64 b), .d (.int .i64 e)]) : Reads 56 [.w (.glo o 0)] gl (.tup [.agg [.d (.int .i64 0), .d (.int .i64 0)], I 10]) := by
  refine .intro Tryz.func56 (by kernel_rfl) (.of fun k ro => ?_)
  simp -implicitDefEqProofs [Tryz.f56, h]
theorem fault_ev {p r : List Tk} {ln cl e : Int} : ReadsU 56 (fun o => [.w (.glo o 0)]) (cW p r ln cl e) (.tup [.agg [.d (.int .i64 ln), .d (.int .i64 cl)], I e]) := by
  refine .intro Tryz.func56 (by kernel_rfl) (.of fun k gl o ro h => ?_)
  simp -implicitDefEqProofs [Tryz.f56, h, cW]
theorem New_ev (l : List Tk) : Evt fun k => ∀ gl ro, ev k 29 [L (l.map Tk.c)] ro gl = some (.c (.w (.glo gl.length 0)), gl ++ [cW [] l 0 0 0]) := by
  refine Evt.up (fun _ g => ∀ gl ro, g [L (l.map Tk.c)] ro gl = some (.c (.w (.glo gl.length 0)), gl ++ [cW [] l 0 0 0])) Tryz.func29 (by kernel_rfl) (.of fun k gl ro => ?_) fun _ _ h => h
  simp -implicitDefEqProofs [Tryz.f29, cW]
end Go.Proofs.YtckonoejmjblfaaGreatDoor.Ev

/- Layer 4: cursors, as the program goes on. -/
set_option linter.unusedVariables false
set_option linter.unusedSimpArgs false
set_option maxRecDepth 100000
set_option maxHeartbeats 2000000
namespace Go.Proofs.YtckonoejmjblfaaGreatDoor.Ev
open Go Go.RowKit

/-- A cursor: what was passed, what is left, the fault. -/
structure Cu where
  p : List Tk
  r : List Tk
  ln : Int
  cl : Int
  e : Int
def Cu.w (c : Cu) : List W := cW c.p c.r c.ln c.cl c.e
def Cu.ref (c : Cu) : C := cR c.p c.r c.ln c.cl c.e
def Cu.next (c : Cu) : Tk := if c.e = 0 then nx c.p c.r else tk0
def Cu.is (c : Cu) (k : Int) (t : List UInt8) : Bool := decide (c.e = 0) && (decide (c.next.kind = k) && decide (c.next.text = t))
def Cu.on (c : Cu) : Cu := match c.r with
  | [] => c
  | t :: r => { c with p := c.p ++ [t], r := r }
def Cu.fail (c : Cu) (e : Int) : Cu := if c.e = 0 ∧ e ≠ 0 then { c with ln := c.next.ln, cl := c.next.cl, e := e } else c
def Cu.take (c : Cu) (k : Int) (t : List UInt8) : Cu := if c.is k t then c.on else c
def Cu.want (c : Cu) (k : Int) (t : List UInt8) : Cu := if c.is k t then c.on else c.fail 2
def Cu.named (c : Cu) : Bool := decide (c.e = 0) && (decide (c.next.kind = 1) && isName c.next.text)
def Cu.name (c : Cu) : Cu × List UInt8 := if c.named then (c.on, c.next.text) else (c.fail 2, [])
def numOf (s : List UInt8) : Int × Int := match getR s with
  | .tup [.w (.d (.int _ n)), .w (.d (.int _ e))] => (n, e)
  | _ => (0, 0)
theorem getR_num' (s : List UInt8) : getR s = .tup [I (numOf s).1, I (numOf s).2] := by
  have : ∃ n e, getR s = .tup [I n, I e] := by
    unfold getR
    split
    · exact ⟨_, _, rfl⟩
    · unfold scanR
      split <;> exact ⟨_, _, rfl⟩
  obtain ⟨n, e, h⟩ := this
  simp only [numOf, h]
def Cu.number (c : Cu) (m : Int) : Cu × Int :=
  if c.e = 0 ∧ c.next.kind = 2 then
    if (numOf c.next.text).2 = 0 then (if m < (numOf c.next.text).1 then (c.fail 3, 0) else (c.on, (numOf c.next.text).1)) else (c.fail (numOf c.next.text).2, 0)
  else (c.fail 2, 0)
/-- Within bounds. -/
structure Cu.Ok (c : Cu) : Prop where
  len : c.p.length + c.r.length < 4611686018427387904
  text : ∀ t ∈ c.r, t.text.length < 4611686018427387904
theorem Cu.Ok.next {c : Cu} (h : c.Ok) : c.next.text.length < 4611686018427387904 := by
  have hw : ∀ p : List Tk, (was p).text = [] := fun p => by unfold was; split <;> rfl
  unfold Cu.next
  split
  · cases hr : c.r with
    | nil => simp [nx, hw]
    | cons t r => exact h.text t (by simp [hr])
  · simp [tk0]
theorem Cu.Ok.on {c : Cu} (h : c.Ok) : c.on.Ok := by
  unfold Cu.on
  split
  · exact h
  · rename_i t r hr
    exact ⟨by have := h.len; simp [hr] at this ⊢; omega, fun u hu => h.text u (by rw [hr]; exact List.mem_cons_of_mem _ hu)⟩
theorem Cu.Ok.fail {c : Cu} (h : c.Ok) (e : Int) : (c.fail e).Ok := by
  unfold Cu.fail
  split
  · exact ⟨h.len, h.text⟩
  · exact h
theorem Cu.Ok.take {c : Cu} (h : c.Ok) (k : Int) (t : List UInt8) : (c.take k t).Ok := by unfold Cu.take; split <;> first | exact h.on | exact h
theorem Cu.Ok.want {c : Cu} (h : c.Ok) (k : Int) (t : List UInt8) : (c.want k t).Ok := by unfold Cu.want; split <;> first | exact h.on | exact h.fail _
theorem Cu.Ok.name {c : Cu} (h : c.Ok) : c.name.1.Ok := by unfold Cu.name; split <;> first | exact h.on | exact h.fail _
theorem Cu.Ok.number {c : Cu} (h : c.Ok) (m : Int) : (c.number m).1.Ok := by
  unfold Cu.number
  split
  · split
    · split
      · exact h.fail _
      · exact h.on
    · exact h.fail _
  · exact h.fail _
theorem Cu.on_e (c : Cu) : c.on.e = c.e := by unfold Cu.on; split <;> rfl

theorem was_snoc (p : List Tk) (t : Tk) : was (p ++ [t]) = ⟨0, [], t.ln, t.cl⟩ := by simp [was]
section
variable {c : Cu}
theorem Obj.glo (o : Nat) : Obj (.glo o 0) := .inr ⟨o, rfl⟩
theorem good_c : ReadsU 32 (fun o => [.w (.glo o 0)]) c.w (V.bool (decide (c.e = 0))) := good_ev
theorem bad_c (he : ¬ c.e = 0) : Bad (At c.w) where -- 33 32
  obj := fun gl x ⟨o, hx, _⟩ => hx ▸ Obj.glo o
  good := (good_c (c := c)).imp fun k h gl x ⟨o, hx, hg⟩ ro => by
    subst hx
    have := h gl o ro hg
    rwa [decide_eq_false he] at this
theorem next_c (hk : c.Ok) : ReadsU 33 (fun o => [.w (.glo o 0)]) c.w (.c c.next.w) := by
  unfold Cu.next
  by_cases he : c.e = 0
  · rw [if_pos he]
    have hg := good_c (c := c)
    rw [decide_eq_true he] at hg
    refine .intro Tryz.func33 (by kernel_rfl) (hg.imp fun k h1 gl o ro h => ?_)
    obtain ⟨p, r, ln, cl, e⟩ := c
    have q1 := fun ro => h1 gl o ro h
    simp only [Cu.w, cW] at h
    cases r with
    | nil =>
      rcases List.eq_nil_or_concat p with rfl | ⟨q, t, rfl⟩
      · simp -implicitDefEqProofs [Tryz.f33, h, q1, Tk.w, nx, was, tk0]
      · have hk1 := hk.len
        simp at hk1
        have w : IntKind.i64.wrap (q.length : Int) = q.length := i64w _ (by omega)
        have g1 : ¬ ((q.length : Int) + 1 = 0) := by omega
        have g2 : (q.length : Int) < q.length + 1 := by omega
        simp -implicitDefEqProofs [Tryz.f33, h, q1, Tk.w, Tk.c, nx, was_snoc, tk0, w, g1, g2]
    | cons t r =>
      have g1 : ¬ ((p.length : Int) + (r.length + 1) = 0) := by omega
      have g2 : ¬ ((p.length : Int) + (r.length + 1) ≤ p.length) := by omega
      have g3 : (p.length : Int) < p.length + (r.length + 1) := by omega
      simp -implicitDefEqProofs [Tryz.f33, h, q1, Tk.w, Tk.c, nx, g1, g2, g3]
  · rw [if_neg he]
    exact (next_no (bad_c he)).u
theorem is_c (hk : c.Ok) (kd : Int) (t : List UInt8) : ReadsU 147 (fun o => [.w (.glo o 0), I kd, T t]) c.w (V.bool (c.is kd t)) := by
  refine .intro Tryz.func147 (by kernel_rfl) ((next_c hk).and (good_c (c := c)) |>.imp fun k ⟨h1, h2⟩ gl o ro h => ?_)
  have h1 := fun ro => h1 gl o ro h
  have h2 := fun ro => h2 gl o ro h
  unfold Cu.is
  by_cases he : c.e = 0
  · by_cases e1 : c.next.kind = kd
    · by_cases e2 : c.next.text = t
      · simp -implicitDefEqProofs [Tryz.f147, h1, h2, Tk.w, he, e1, e2]
      · simp -implicitDefEqProofs [Tryz.f147, h1, h2, Tk.w, he, e1, e2]
    · simp -implicitDefEqProofs [Tryz.f147, h1, h2, Tk.w, he, e1]
  · simp -implicitDefEqProofs [Tryz.f147, h1, h2, Tk.w, he]
theorem on_c (hk : c.Ok) : DoesU 148 (fun o => [.w (.glo o 0)]) c.w (.tup []) c.on.w := by
  refine .intro Tryz.func148 (by kernel_rfl) (.of fun k gl o ro h hro => ?_)
  have hro' : ¬ o < ro := by omega
  have hk1 := hk.len
  obtain ⟨p, r, ln, cl, e⟩ := c
  cases r with
  | nil =>
    rw [show Cu.on ⟨p, [], ln, cl, e⟩ = ⟨p, [], ln, cl, e⟩ from rfl, set_same h]
    simp only [Cu.w, cW] at h
    simp -implicitDefEqProofs [Tryz.f148, h, hro']
  | cons t r =>
    simp only [Cu.w, cW] at h
    simp only [List.length_cons] at hk1
    have g3 : (p.length : Int) < p.length + (r.length + 1) := by omega
    have w : IntKind.i64.wrap ((p.length : Int) + 1) = (p.length : Int) + 1 := i64w _ (by omega)
    simp -implicitDefEqProofs [Tryz.f148, h, g3, w, Cu.on, Cu.w, cW, hro']
theorem fail_c (hk : c.Ok) (e : Int) : DoesU 55 (fun o => [.w (.glo o 0), I e]) c.w (.tup []) (c.fail e).w := by
  unfold Cu.fail
  by_cases he : c.e = 0
  · refine .intro Tryz.func55 (by kernel_rfl) ((next_c hk).and (good_c (c := c)) |>.imp fun k ⟨h1, h2⟩ gl o ro h hro => ?_)
    have hro' : ¬ o < ro := by omega
    have h1 := fun ro => h1 gl o ro h
    have h2 := fun ro => h2 gl o ro h
    by_cases h0 : e = 0
    · rw [if_neg (by simp [h0]), set_same h]
      simp -implicitDefEqProofs [Tryz.f55, h2, he, h0]
    · rw [if_pos ⟨he, h0⟩]
      simp only [Cu.w, cW] at h
      simp -implicitDefEqProofs [Tryz.f55, h1, h2, he, h0, h, Cu.w, cW, Tk.w, hro']
  · rw [if_neg (by simp [he])]
    exact (fail_no (bad_c he) e).u.does
theorem take_c (hk : c.Ok) (kd : Int) (t : List UInt8) : DoesU 83 (fun o => [.w (.glo o 0), I kd, T t]) c.w (V.bool (c.is kd t)) (c.take kd t).w := by
  refine .intro Tryz.func83 (by kernel_rfl) ((is_c hk kd t).and (on_c hk) |>.imp fun k ⟨h1, h2⟩ gl o ro h hro => ?_)
  have h1 := fun ro => h1 gl o ro h
  have h2 := fun ro => h2 gl o ro h
  unfold Cu.take
  cases hb : c.is kd t with
  | true => simp -implicitDefEqProofs [Tryz.f83, h1, h2, hb, hro]
  | false =>
    rw [if_neg (by simp), set_same h]
    simp -implicitDefEqProofs [Tryz.f83, h1, hb]
theorem want_c (hk : c.Ok) (kd : Int) (t : List UInt8) : DoesU 107 (fun o => [.w (.glo o 0), I kd, T t]) c.w (.tup []) (c.want kd t).w := by
  refine .intro Tryz.func107 (by kernel_rfl) ((take_c hk kd t).and (fail_c hk 2) |>.imp fun k ⟨h1, h2⟩ gl o ro h hro => ?_)
  have h1 := fun ro => h1 gl o ro h
  have h2 := fun ro => h2 gl o ro h
  unfold Cu.take at h1
  unfold Cu.want
  cases hb : c.is kd t with
  | true =>
    rw [hb, if_pos rfl] at h1
    simp -implicitDefEqProofs [Tryz.f107, h1, hro]
  | false =>
    rw [hb, if_neg (by simp), set_same h] at h1
    simp -implicitDefEqProofs [Tryz.f107, h1, h2, hro]
theorem name_c (hk : c.Ok) : DoesU 108 (fun o => [.w (.glo o 0)]) c.w (V.str c.name.2) c.name.1.w := by
  refine .intro Tryz.func108 (by kernel_rfl) ((next_c hk).and ((nIs_ev c.next.text hk.next).and ((fail_c hk 2).and (on_c hk))) |>.imp fun k ⟨h1, h2, h3, h4⟩ gl o ro h hro => ?_)
  have h1 := fun ro => h1 gl o ro h
  have h3 := fun ro => h3 gl o ro h
  have h4 := fun ro => h4 gl o ro h
  unfold Cu.name Cu.named
  by_cases he : c.e = 0
  · by_cases e1 : c.next.kind = 1
    · cases e2 : isName c.next.text with
      | true => simp -implicitDefEqProofs [Tryz.f108, h1, h2, h4, Tk.w, he, e1, e2, hro]
      | false => simp -implicitDefEqProofs [Tryz.f108, h1, h2, h3, Tk.w, he, e1, e2, hro]
    · simp -implicitDefEqProofs [Tryz.f108, h1, h3, Tk.w, he, e1, hro]
  · have e1 : ¬ c.next.kind = 1 := by simp [Cu.next, he, tk0]
    simp -implicitDefEqProofs [Tryz.f108, h1, h3, Tk.w, he, e1, hro]
theorem number_c (hk : c.Ok) (m : Int) : DoesU 217 (fun o => [.w (.glo o 0), I m]) c.w (.c (I (c.number m).2)) (c.number m).1.w := by
  have g := Get_ev c.next.text hk.next
  rw [getR_num'] at g
  refine .intro Tryz.func217 (by kernel_rfl) ((next_c hk).and (g.and ((good_c (c := c)).and ((fail_c hk 2).and ((fail_c hk 3).and ((fail_c hk (numOf c.next.text).2).and (on_c hk)))))) |>.imp fun k ⟨h1, h2, h3, h4, h5, h6, h7⟩ gl o ro h hro => ?_)
  have h1 := fun ro => h1 gl o ro h
  have h3 := fun ro => h3 gl o ro h
  have h4 := fun ro => h4 gl o ro h
  have h5 := fun ro => h5 gl o ro h
  have h6 := fun ro => h6 gl o ro h
  have h7 := fun ro => h7 gl o ro h
  unfold Cu.number
  by_cases he : c.e = 0
  · by_cases e1 : c.next.kind = 2
    · rw [if_pos ⟨he, e1⟩]
      generalize numOf c.next.text = q at h2 h6 ⊢
      obtain ⟨n, e⟩ := q
      simp only at h2 h6 ⊢
      by_cases e2 : e = 0
      · rw [if_pos e2]
        by_cases e3 : m < n
        · rw [if_pos e3]
          simp -implicitDefEqProofs [Tryz.f217, h1, h2, h5, Tk.w, he, e1, e2, e3, hro]
        · rw [if_neg e3]
          simp -implicitDefEqProofs [Tryz.f217, h1, h2, h3, h7, Tk.w, he, e1, e2, e3, hro]
      · rw [if_neg e2]
        simp -implicitDefEqProofs [Tryz.f217, h1, h2, h6, Tk.w, he, e1, e2, hro]
    · rw [if_neg (by simp [e1])]
      simp -implicitDefEqProofs [Tryz.f217, h1, h2, h4, Tk.w, he, e1, hro]
  · have e1 : ¬ c.next.kind = 2 := by simp [Cu.next, he, tk0]
    rw [if_neg (by simp [e1])]
    simp -implicitDefEqProofs [Tryz.f217, h1, h2, h4, Tk.w, he, e1, hro]
end
end Go.Proofs.YtckonoejmjblfaaGreatDoor.Ev

/- Layer 4: cursors, as the document goes on. -/
set_option linter.unusedVariables false
set_option linter.unusedSimpArgs false
set_option maxRecDepth 100000
set_option maxHeartbeats 2000000
namespace Go.Proofs.YtckonoejmjblfaaGreatDoor.Ev
open Go Go.RowKit

section
variable {c : Cu}
theorem rNext_c : Gives 220 [c.ref] (.c c.next.w) := by
  refine .intro Tryz.func220 (by kernel_rfl) (.of fun k ro gl => ?_)
  obtain ⟨p, r, ln, cl, e⟩ := c
  by_cases he : e = 0
  · cases r with
    | nil =>
      have hw : (was p).kind = 0 ∧ (was p).text = [] := by unfold was; split <;> exact ⟨rfl, rfl⟩
      simp -implicitDefEqProofs [Tryz.f220, Cu.ref, cR, Cu.next, nx, he, Tk.w, hw]
    | cons t r =>
      have g1 : ¬ ((r.length : Int) + 1 = 0) := by omega
      have g2 : (0 : Int) < r.length + 1 := by omega
      simp -implicitDefEqProofs [Tryz.f220, Cu.ref, cR, Cu.next, nx, he, Tk.w, Tk.c, g1, g2]
  · simp -implicitDefEqProofs [Tryz.f220, Cu.ref, cR, Cu.next, he, Tk.w, tk0]
theorem rOn_c (hk : c.Ok) : Gives 173 [c.ref] (.c c.on.ref) := by
  refine .intro Tryz.func173 (by kernel_rfl) (.of fun k ro gl => ?_)
  have hk1 := hk.len
  obtain ⟨p, r, ln, cl, e⟩ := c
  cases r with
  | nil => simp -implicitDefEqProofs [Tryz.f173, Cu.ref, cR, Cu.on]
  | cons t r =>
    simp only [List.length_cons] at hk1
    have g1 : (0 : Int) < r.length + 1 := by omega
    have g2 : (1 : Int) ≤ r.length + 1 := by omega
    simp -implicitDefEqProofs [Tryz.f173, Cu.ref, cR, Cu.on, Tk.c, was_snoc, g1, g2]
theorem rFail_c (e : Int) : Gives 174 [c.ref, I e] (.c (c.fail e).ref) := by
  refine .intro Tryz.func174 (by kernel_rfl) ((rNext_c (c := c)).imp fun k h1 ro gl => ?_)
  unfold Cu.fail
  simp only [Cu.ref, cR] at h1
  by_cases he : c.e = 0
  · rw [he] at h1
    by_cases h0 : e = 0
    · rw [if_neg (by simp [h0])]
      simp -implicitDefEqProofs [Tryz.f174, Cu.ref, cR, he, h0]
    · rw [if_pos ⟨he, h0⟩]
      simp -implicitDefEqProofs [Tryz.f174, Cu.ref, cR, he, h0, h1, Tk.w]
  · rw [if_neg (by simp [he])]
    simp -implicitDefEqProofs [Tryz.f174, Cu.ref, cR, he]
theorem rIs_c (kd : Int) (t : List UInt8) : Gives 172 [c.ref, I kd, T t] (V.bool (c.is kd t)) := by
  refine .intro Tryz.func172 (by kernel_rfl) ((rNext_c (c := c)).imp fun k h1 ro gl => ?_)
  unfold Cu.is
  simp only [Cu.ref, cR] at h1
  by_cases he : c.e = 0
  · rw [he] at h1
    by_cases e1 : c.next.kind = kd
    · by_cases e2 : c.next.text = t
      · simp -implicitDefEqProofs [Tryz.f172, Cu.ref, cR, h1, Tk.w, he, e1, e2]
      · simp -implicitDefEqProofs [Tryz.f172, Cu.ref, cR, h1, Tk.w, he, e1, e2]
    · simp -implicitDefEqProofs [Tryz.f172, Cu.ref, cR, h1, Tk.w, he, e1]
  · simp -implicitDefEqProofs [Tryz.f172, Cu.ref, cR, h1, Tk.w, he]
theorem rTake_c (hk : c.Ok) (kd : Int) (t : List UInt8) : Gives 222 [c.ref, I kd, T t] (.tup [(c.take kd t).ref, B (c.is kd t)]) := by
  refine .intro Tryz.func222 (by kernel_rfl) ((rIs_c (c := c) kd t).and (rOn_c hk) |>.imp fun k ⟨h1, h2⟩ ro gl => ?_)
  unfold Cu.take
  simp only [Cu.ref, cR] at h1 h2
  cases hb : c.is kd t with
  | true => simp -implicitDefEqProofs [Tryz.f222, Cu.ref, cR, h1, h2, hb]
  | false => simp -implicitDefEqProofs [Tryz.f222, Cu.ref, cR, h1, hb]
theorem rWant_c (hk : c.Ok) (kd : Int) (t : List UInt8) : Gives 119 [c.ref, I kd, T t] (.c (c.want kd t).ref) := by
  refine .intro Tryz.func119 (by kernel_rfl) ((rIs_c (c := c) kd t).and ((rOn_c hk).and (rFail_c (c := c) 2)) |>.imp fun k ⟨h1, h2, h3⟩ ro gl => ?_)
  unfold Cu.want
  simp only [Cu.ref, cR] at h1 h2 h3
  cases hb : c.is kd t with
  | true => simp -implicitDefEqProofs [Tryz.f119, Cu.ref, cR, h1, h2, hb]
  | false => simp -implicitDefEqProofs [Tryz.f119, Cu.ref, cR, h1, h3, hb]
theorem rName_c (hk : c.Ok) : Gives 166 [c.ref] (.tup [c.name.1.ref, T c.name.2]) := by
  refine .intro Tryz.func166 (by kernel_rfl) ((rNext_c (c := c)).and ((rIs_ev c.next.text hk.next).and ((rFail_c (c := c) 2).and (rOn_c hk))) |>.imp fun k ⟨h1, h2, h3, h4⟩ ro gl => ?_)
  unfold Cu.name Cu.named
  simp only [Cu.ref, cR] at h1 h3 h4
  by_cases he : c.e = 0
  · rw [he] at h1 h3 h4
    by_cases e1 : c.next.kind = 1
    · cases e2 : isName c.next.text with
      | true => simp -implicitDefEqProofs [Tryz.f166, Cu.ref, cR, h1, h2, h4, Tk.w, he, e1, e2]
      | false => simp -implicitDefEqProofs [Tryz.f166, Cu.ref, cR, h1, h2, h3, Tk.w, he, e1, e2]
    · simp -implicitDefEqProofs [Tryz.f166, Cu.ref, cR, h1, h3, Tk.w, he, e1]
  · simp -implicitDefEqProofs [Tryz.f166, Cu.ref, cR, h1, h3, Tk.w, he]
theorem rNumber_c (hk : c.Ok) (m : Int) : Gives 264 [c.ref, I m] (.tup [(c.number m).1.ref, I (c.number m).2]) := by
  have g := rGet_ev c.next.text hk.next
  rw [getR_num'] at g
  refine .intro Tryz.func264 (by kernel_rfl) ((rNext_c (c := c)).and (g.and ((rFail_c (c := c) 2).and ((rFail_c (c := c) 3).and ((rFail_c (c := c) (numOf c.next.text).2).and (rOn_c hk))))) |>.imp fun k ⟨h1, h2, h4, h5, h6, h7⟩ ro gl => ?_)
  unfold Cu.number
  simp only [Cu.ref, cR] at h1 h4 h5 h6 h7
  by_cases he : c.e = 0
  · rw [he] at h1 h4 h5 h6 h7
    by_cases e1 : c.next.kind = 2
    · rw [if_pos ⟨he, e1⟩]
      generalize numOf c.next.text = q at h2 h6 ⊢
      obtain ⟨n, e⟩ := q
      simp only at h2 h6 ⊢
      by_cases e2 : e = 0
      · rw [if_pos e2]
        by_cases e3 : m < n
        · rw [if_pos e3]
          simp -implicitDefEqProofs [Tryz.f264, Cu.ref, cR, h1, h2, h5, Tk.w, he, e1, e2, e3]
        · rw [if_neg e3]
          simp -implicitDefEqProofs [Tryz.f264, Cu.ref, cR, h1, h2, h7, Tk.w, he, e1, e2, e3]
      · rw [if_neg e2]
        simp -implicitDefEqProofs [Tryz.f264, Cu.ref, cR, h1, h2, h6, Tk.w, he, e1, e2]
    · rw [if_neg (by simp [e1])]
      simp -implicitDefEqProofs [Tryz.f264, Cu.ref, cR, h1, h4, Tk.w, he, e1]
  · rw [if_neg (by simp [he])]
    simp -implicitDefEqProofs [Tryz.f264, Cu.ref, cR, h1, h4, Tk.w, he]
end
end Go.Proofs.YtckonoejmjblfaaGreatDoor.Ev
