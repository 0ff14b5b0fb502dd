/- Layers 5, 6: what is told of one term's deed. -/
import Derived.Test.YtckonoejmjblfaaGreatDoorPkLib
import Derived.Test.YtckonoejmjblfaaGreatDoorPkEvOR
set_option linter.unusedVariables false
set_option linter.unusedSimpArgs false
set_option maxRecDepth 100000
set_option maxHeartbeats 4000000
namespace Go.Proofs.YtckonoejmjblfaaGreatDoor.Ev
open Go Go.RowKit

/-- A function of one int, whatever it is. -/
def FnI (f : Nat) (g : Int → Int) : Prop := Evt fun k => ∀ (x : Int) ro gl, ev k f [I x] ro gl = some (V.int .i64 (g x), gl)
theorem FnI.intro {f : Nat} {fn : Func} {g : Int → Int} (hf : Tryz.prog.funcs[f]? = some fn) (hn : (fnOk cf f fn && (xtL.lookup f).isNone) = true)
    (h : Evt fun n => ∀ (x : Int) ro gl, bodyA Tryz.prog cf f (ev n) n fn [I x] ro gl = some (V.int .i64 (g x), gl)) : FnI f g :=
  Evt.up (fun _ q => ∀ (x : Int) ro gl, q [I x] ro gl = some (V.int .i64 (g x), gl)) hf hn h fun _ _ h => h
theorem twenty {x : Int} (h1 : ¬ x < 1) (h2 : ¬ 20 < x) : x = 1 ∨ x = 2 ∨ x = 3 ∨ x = 4 ∨ x = 5 ∨ x = 6 ∨ x = 7 ∨ x = 8 ∨ x = 9 ∨ x = 10 ∨ x = 11 ∨ x = 12 ∨ x = 13 ∨ x = 14 ∨ x = 15 ∨ x = 16 ∨ x = 17 ∨ x = 18 ∨ x = 19 ∨ x = 20 := by omega
def arity (x : Int) : Int := if x < 1 then -1 else if 20 < x then -1 else if x = 3 ∨ x = 12 then 1 else if x ≤ 2 ∨ (9 ≤ x ∧ x ≤ 11) then 0 else 2
theorem Arity_ev : FnI 236 arity := by
  refine .intro Tryz.func236 (by kernel_rfl) (.of fun k x ro gl => ?_)
  unfold arity
  by_cases h1 : x < 1
  · simp -implicitDefEqProofs [Tryz.f236, h1]
  · by_cases h2 : 20 < x
    · simp -implicitDefEqProofs [Tryz.f236, h1, h2]
    · rcases twenty h1 h2 with h | h | h | h | h | h | h | h | h | h | h | h | h | h | h | h | h | h | h | h <;> subst h <;>
        simp -implicitDefEqProofs [Tryz.f236]
theorem rArity_ev : FnI 198 arity := by
  refine .intro Tryz.func198 (by kernel_rfl) (.of fun k x ro gl => ?_)
  unfold arity
  by_cases h1 : x < 1
  · simp -implicitDefEqProofs [Tryz.f198, h1]
  · by_cases h2 : 20 < x
    · simp -implicitDefEqProofs [Tryz.f198, h1, h2]
    · rcases twenty h1 h2 with h | h | h | h | h | h | h | h | h | h | h | h | h | h | h | h | h | h | h | h <;> subst h <;>
        simp -implicitDefEqProofs [Tryz.f198]
def levelI (x : Int) : Int := if x = 20 then 1 else if x = 19 then 2 else if x = 12 then 3 else if 13 ≤ x ∧ x ≤ 18 then 4 else if x = 4 ∨ x = 5 then 5 else if x = 6 then 6 else if x = 3 then 7 else 8
theorem level_ev : FnI 195 levelI := by
  refine .intro Tryz.func195 (by kernel_rfl) (.of fun k x ro gl => ?_)
  by_cases h : x = 3 ∨ x = 4 ∨ x = 5 ∨ x = 6 ∨ x = 12 ∨ x = 13 ∨ x = 14 ∨ x = 15 ∨ x = 16 ∨ x = 17 ∨ x = 18 ∨ x = 19 ∨ x = 20
  · rcases h with h | h | h | h | h | h | h | h | h | h | h | h | h <;> subst h <;>
      simp -implicitDefEqProofs [Tryz.f195, levelI]
  · simp only [not_or] at h
    obtain ⟨h3, h4, h5, h6, h12, h13, h14, h15, h16, h17, h18, h19, h20⟩ := h
    have e : levelI x = 8 := by
      unfold levelI
      rw [if_neg h20, if_neg h19, if_neg h12, if_neg (by omega), if_neg (by omega), if_neg h6, if_neg h3]
    rw [e]
    simp -implicitDefEqProofs [Tryz.f195, h3, h4, h5, h6, h12, h13, h14, h15, h16, h17, h18, h19, h20]
def leftI (x : Int) : Int := if levelI x = 4 then 5 else levelI x
theorem left_ev : FnI 196 leftI := by
  refine .intro Tryz.func196 (by kernel_rfl) (level_ev.imp fun k h x ro gl => ?_)
  have h := h x
  unfold leftI
  by_cases h4 : levelI x = 4
  · simp -implicitDefEqProofs [Tryz.f196, h, h4]
  · simp -implicitDefEqProofs [Tryz.f196, h, h4]
/-- What stands between two expressions. -/
def signB (x : Int) : List UInt8 :=
  if x = 4 then [43] else if x = 5 then [45] else if x = 6 then [42] else if x = 13 then [61, 61] else if x = 14 then [33, 61] else if x = 15 then [60] else if x = 16 then [60, 61] else if x = 17 then [62] else if x = 18 then [62, 61]
  else if x = 19 then [97, 110, 100] else if x = 20 then [111, 114] else []
theorem sign_ev : Evt fun k => ∀ (x : Int) ro gl, 1 ≤ x → x ≤ 20 → ev k 197 [I x] ro gl = some (V.str (signB x), gl) := by
  refine Evt.up (fun _ q => ∀ (x : Int) ro gl, 1 ≤ x → x ≤ 20 → q [I x] ro gl = some (V.str (signB x), gl)) Tryz.func197 (by kernel_rfl) (.of fun k x ro gl h1 h2 => ?_) fun _ _ h => h
  rcases twenty (x := x) (by omega) (by omega) with h | h | h | h | h | h | h | h | h | h | h | h | h | h | h | h | h | h | h | h <;> subst h <;>
    simp -implicitDefEqProofs [Tryz.f197, signB]
end Go.Proofs.YtckonoejmjblfaaGreatDoor.Ev

/- Layer 5: where an expression ends, as the program finds it. -/
set_option linter.unusedVariables false
set_option linter.unusedSimpArgs false
set_option maxRecDepth 100000
set_option maxHeartbeats 4000000
namespace Go.Proofs.YtckonoejmjblfaaGreatDoor.Ev
open Go Go.RowKit

structure Tm where
  op : Int
  n : Int
  name : List UInt8
deriving DecidableEq
def Tm.c (t : Tm) : List D := [.int .i64 t.op, .int .i64 t.n, .str t.name]
/-- How many terms close so many expressions. -/
def eat : Nat → List Tm → Option Nat
  | 0, _ => some 0
  | _ + 1, [] => none
  | n + 1, t :: r => if arity t.op < 0 then none else (eat (n + (arity t.op).toNat) r).map (· + 1)
def endV (l : List Tm) (i : Nat) : Int := match eat 1 (l.drop i) with
  | some k => i + k
  | none => -1
theorem arity_le (x : Int) : -1 ≤ arity x ∧ arity x ≤ 2 := by
  unfold arity
  repeat' split
  all_goals omega
def enS (l : List Tm) (i : Nat) (lacks : Nat) (gl : List (List W)) (ro : Nat) : St := st 37 [(0, .c (L (l.map Tm.c))), (1, V.int .i64 i), (5, V.int .i64 lacks)] [] [] gl ro
theorem en_loop (l : List Tm) (hl : l.length < 2305843009213693952) : Evt fun k => ∀ gl ro n i lacks S, l.length < n + i → i < 4611686018427387904 → lacks ≤ 2 * i + 1 → 0 < n → S.hav [0, 1, 5] = enS l i lacks gl ro →
    loopA (evC Tryz.prog cf 250 (ev k) k (bodyOf Tryz.f250 0)) [0, 1, 5] [4] n S = some (match eat lacks (l.drop i) with
      | some k => (.exit 0, enS l (i + k) 0 gl ro)
      | none => (.ret, st 37 [(4, V.int .i64 (-1))] [] [] gl ro)) := by
  refine Arity_ev.imp fun k h gl ro n => ?_
  induction n with
  | zero => intro i lacks S _ _ _ h0; omega
  | succ n ih =>
    intro i lacks S hn hi hla _ hS
    cases lacks with
    | zero =>
      have e : eat 0 (l.drop i) = some 0 := by cases l.drop i <;> rfl
      rw [e]
      refine loop_exit ?_
      rw [hS]
      simp -implicitDefEqProofs [enS, bodyOf, loopsOf, hv, Tryz.f250]
    | succ q =>
      have g0 : (0 : Int) < (q : Int) + 1 := by omega
      have hng : ¬ (i : Int) < 0 := by omega
      by_cases hil : l.length ≤ i
      · have hil' : (l.length : Int) ≤ i := by omega
        rw [List.drop_of_length_le hil]
        refine loop_ret ?_
        rw [hS]
        simp -implicitDefEqProofs [enS, bodyOf, loopsOf, hv, Tryz.f250, g0, hng, hil']
      · have hlt : i < l.length := by omega
        have hil' : ¬ (l.length : Int) ≤ i := by omega
        have hlt' : (i : Int) < l.length := by omega
        have hd : l.drop i = l[i] :: l.drop (i + 1) := List.drop_eq_getElem_cons hlt
        have hc : l[i]? = some l[i] := List.getElem?_eq_getElem hlt
        generalize l[i] = t at hd hc
        have h := h t.op
        obtain ⟨a1, a2⟩ := arity_le t.op
        rw [hd]
        by_cases ha : arity t.op < 0
        · rw [show eat (q + 1) (t :: l.drop (i + 1)) = none by rw [eat, if_pos ha]]
          refine loop_ret ?_
          rw [hS]
          simp -implicitDefEqProofs [enS, bodyOf, loopsOf, hv, Tryz.f250, g0, hng, hil', hlt', hc, Tm.c, h, ha]
        · have w1 : IntKind.i64.wrap (arity t.op - 1) = arity t.op - 1 := i64w _ (by omega)
          have w2 : IntKind.i64.wrap ((q : Int) + 1 + (arity t.op - 1)) = (q : Int) + 1 + (arity t.op - 1) := i64w _ (by omega)
          have w3 : IntKind.i64.wrap ((i : Int) + 1) = (i : Int) + 1 := i64w _ (by omega)
          have e : ((q + (arity t.op).toNat : Nat) : Int) = (q : Int) + 1 + (arity t.op - 1) := by omega
          have round : (evC Tryz.prog cf 250 (ev k) k (bodyOf Tryz.f250 0) (enS l i (q + 1) gl ro)).map (hv [0, 1, 5]) = some (.normal, enS l (i + 1) (q + (arity t.op).toNat) gl ro) := by
            have hme : l[i] = t := (List.getElem?_eq_some_iff.1 hc).2
            unfold enS
            rw [e]
            simp -implicitDefEqProofs [bodyOf, loopsOf, hv, Tryz.f250, g0, hng, hil', hlt', hlt, hme, Tm.c, h, ha, w1, w2, w3]
          rw [← hS] at round
          obtain ⟨S', hS', e'⟩ := loop_on round
          rw [e', ih (i + 1) (q + (arity t.op).toNat) S' (by omega) (by omega) (by omega) (by omega) hS', show eat (q + 1) (t :: l.drop (i + 1)) = (eat (q + (arity t.op).toNat) (l.drop (i + 1))).map (· + 1) by rw [eat, if_neg ha]]
          cases eat (q + (arity t.op).toNat) (l.drop (i + 1)) with
          | none => rfl
          | some m => simp only [Option.map_some]; rw [show i + 1 + m = i + (m + 1) by omega]
theorem End_ev (l : List Tm) (hl : l.length < 2305843009213693952) (i : Nat) (hi : i < 4611686018427387904) : Gives 250 [L (l.map Tm.c), I i] (V.int .i64 (endV l i)) := by
  refine .intro Tryz.func250 (by kernel_rfl) ((en_loop l hl).and (Evt.ge (l.length + 1)) |>.imp fun k ⟨h, hk⟩ ro gl => ?_)
  have tail : ∀ S : St, S.hav [0, 1, 5] = enS l i 1 gl gl.length → loopC Tryz.prog cf 250 (ev k) k (bodyOf Tryz.f250 0) S = _ := fun S hS => h gl gl.length k i 1 S (by omega) hi (by omega) (by omega) hS
  unfold endV
  simp -implicitDefEqProofs [Tryz.f250]
  refine bind_go (tail _ ?_) ?_
  · simp [enS]
  · cases eat 1 (l.drop i) with
    | none => simp
    | some m => simp [enS]
end Go.Proofs.YtckonoejmjblfaaGreatDoor.Ev

/- Layer 5: where an expression ends, as the document finds it. -/
set_option linter.unusedVariables false
set_option linter.unusedSimpArgs false
set_option maxRecDepth 100000
set_option maxHeartbeats 4000000
namespace Go.Proofs.YtckonoejmjblfaaGreatDoor.Ev
open Go Go.RowKit

theorem eat_le : ∀ (n : Nat) (r : List Tm) (k : Nat), eat n r = some k → k ≤ r.length
  | 0, r, k, h => by
    have : eat 0 r = some 0 := by cases r <;> rfl
    rw [this] at h
    cases h
    exact Nat.zero_le _
  | n + 1, [], k, h => by simp [eat] at h
  | n + 1, t :: r, k, h => by
    rw [eat] at h
    split at h
    · cases h
    · rw [Option.map_eq_some_iff] at h
      obtain ⟨m, hm, rfl⟩ := h
      have := eat_le _ _ _ hm
      simp only [List.length_cons]
      omega
theorem eat_add : ∀ (r : List Tm) (a b : Nat), eat (a + b) r = (eat a r).bind fun k => (eat b (r.drop k)).map (· + k)
  | r, 0, b => by
    have : eat 0 r = some 0 := by cases r <;> rfl
    rw [this, Nat.zero_add]
    simp
  | [], a + 1, b => by
    rw [show a + 1 + b = (a + b) + 1 by omega]
    rfl
  | t :: r, a + 1, b => by
    rw [show a + 1 + b = (a + b) + 1 by omega, eat, eat]
    split
    · rfl
    · rw [show a + b + (arity t.op).toNat = (a + (arity t.op).toNat) + b by omega, eat_add r (a + (arity t.op).toNat) b]
      cases eat (a + (arity t.op).toNat) r with
      | none => rfl
      | some k =>
        simp only [Option.bind_some, Option.map_some, List.drop_succ_cons, Option.map_map]
        congr 1
def reS (l : List Tm) (i next j : Nat) (gl : List (List W)) (ro : Nat) : St := st 42 [(0, .c (L (l.map Tm.c))), (1, V.int .i64 i), (5, V.int .i64 next), (6, V.int .i64 j)] [] [] gl ro
theorem re_loop (l : List Tm) (hl : l.length < 2305843009213693952) (i : Nat) (hi : i < l.length) (t : Tm) (ht : l[i]? = some t) (ha : ¬ arity t.op < 0)
    (ih : Evt fun k => ∀ next, i < next → next ≤ l.length + 1 → ∀ ro gl, ev k 199 [L (l.map Tm.c), I (next : Nat)] ro gl = some (V.int .i64 (endV l next), gl)) :
    Evt fun k => ∀ gl ro S, S.hav [0, 1, 5, 6] = reS l i (i + 1) 0 gl ro →
    loopA (evC Tryz.prog cf 199 (ev k) k (bodyOf Tryz.f199 0)) [0, 1, 5, 6] [4] k S = some (match eat (arity t.op).toNat (l.drop (i + 1)) with
      | some m => (.exit 0, reS l i (i + 1 + m) (arity t.op).toNat gl ro)
      | none => (.ret, st 42 [(4, V.int .i64 (-1))] [] [] gl ro)) := by
  refine (rArity_ev.and (ih.and (Evt.ge 4))).imp fun k ⟨h1, h2, hk⟩ gl ro S hS => ?_
  have h1 := h1 t.op
  obtain ⟨a1, a2⟩ := arity_le t.op
  have hil : (i : Int) < l.length := by omega
  have hme : l[i] = t := (List.getElem?_eq_some_iff.1 ht).2
  refine loop_by (keep := [0, 1, 5, 6]) (res := [4]) (fun x : Nat × Nat => reS l i x.1 x.2 gl ro) (fun x => x.2 ≤ (arity t.op).toNat ∧ i < x.1 ∧ x.1 ≤ l.length + 1) (fun x => (arity t.op).toNat - x.2) (fun x => match eat ((arity t.op).toNat - x.2) (l.drop x.1) with
      | some m => (.exit 0, reS l i (x.1 + m) (arity t.op).toNat gl ro)
      | none => (.ret, st 42 [(4, V.int .i64 (-1))] [] [] gl ro)) ?_ k (i + 1, 0) S ⟨by omega, by omega, by omega⟩ (by simp only; omega) hS
  rintro ⟨next, j⟩ ⟨p1, p2, p3⟩
  simp only at p1 p2 p3 ⊢
  have h2 := h2 next p2 p3
  by_cases hj : j = (arity t.op).toNat
  · have hj' : ¬ (j : Int) < arity t.op := by omega
    refine .inr (.inl ⟨0, reS l i next j gl ro, ?_, ?_⟩)
    · simp -implicitDefEqProofs [reS, bodyOf, loopsOf, hv, Tryz.f199, hil, hi, hme, Tm.c, h1, hj']
    · rw [← hj, Nat.sub_self, show eat 0 (l.drop next) = some 0 by cases l.drop next <;> rfl]
      rfl
  · have hj' : (j : Int) < arity t.op := by omega
    have w : IntKind.i64.wrap ((j : Int) + 1) = (j : Int) + 1 := i64w _ (by omega)
    have e : (arity t.op).toNat - j = 1 + ((arity t.op).toNat - (j + 1)) := by omega
    rw [e, eat_add]
    unfold endV at h2
    cases he : eat 1 (l.drop next) with
    | none =>
      rw [he] at h2
      refine .inr (.inr ⟨st 42 [(4, V.int .i64 (-1))] [] [] gl ro, ?_, rfl⟩)
      simp -implicitDefEqProofs [reS, bodyOf, loopsOf, hv, Tryz.f199, hil, hi, hme, Tm.c, h1, hj', h2]
    | some m =>
      rw [he] at h2
      have hm := eat_le _ _ _ he
      rw [List.length_drop] at hm
      have hneg : ¬ (next : Int) + m < 0 := by omega
      refine .inl ⟨(next + m, j + 1), ⟨by omega, by omega, by omega⟩, by omega, ?_, ?_⟩
      · simp -implicitDefEqProofs [reS, bodyOf, loopsOf, hv, Tryz.f199, hil, hi, hme, Tm.c, h1, hj', h2, hneg, w]
      · simp only [Option.bind_some, List.drop_drop]
        cases eat ((arity t.op).toNat - (j + 1)) (l.drop (next + m)) with
        | none => rfl
        | some q => simp only [Option.map_some]; rw [show next + m + q = next + (q + m) by omega]
theorem rEnd_one (l : List Tm) (hl : l.length < 2305843009213693952) (i : Nat) (hi : i ≤ l.length + 1)
    (ih : Evt fun k => ∀ next, i < next → next ≤ l.length + 1 → ∀ ro gl, ev k 199 [L (l.map Tm.c), I (next : Nat)] ro gl = some (V.int .i64 (endV l next), gl)) :
    Gives 199 [L (l.map Tm.c), I i] (V.int .i64 (endV l i)) := by
  have hng : ¬ (i : Int) < 0 := by omega
  by_cases hil : l.length ≤ i
  · have hil' : (l.length : Int) ≤ i := by omega
    have e : endV l i = -1 := by
      unfold endV
      rw [List.drop_of_length_le hil]
      rfl
    rw [e]
    refine .intro Tryz.func199 (by kernel_rfl) (.of fun k ro gl => ?_)
    simp -implicitDefEqProofs [Tryz.f199, hng, hil']
  · have hlt : i < l.length := by omega
    have hil' : ¬ (l.length : Int) ≤ i := by omega
    have hlt' : (i : Int) < l.length := by omega
    obtain ⟨t, ht⟩ : ∃ t, l[i]? = some t := ⟨_, List.getElem?_eq_getElem hlt⟩
    have hme : l[i] = t := (List.getElem?_eq_some_iff.1 ht).2
    have hd : l.drop i = t :: l.drop (i + 1) := by rw [List.drop_eq_getElem_cons hlt, hme]
    have w : IntKind.i64.wrap ((i : Int) + 1) = (i : Int) + 1 := i64w _ (by omega)
    unfold endV
    rw [hd]
    by_cases ha : arity t.op < 0
    · rw [show eat 1 (t :: l.drop (i + 1)) = none by rw [eat, if_pos ha]]
      refine .intro Tryz.func199 (by kernel_rfl) (rArity_ev.imp fun k h ro gl => ?_)
      have h := h t.op
      simp -implicitDefEqProofs [Tryz.f199, hng, hil', hlt', hlt, hme, Tm.c, h, ha]
    · rw [show eat 1 (t :: l.drop (i + 1)) = (eat (arity t.op).toNat (l.drop (i + 1))).map (· + 1) by rw [eat, if_neg ha, Nat.zero_add]]
      refine .intro Tryz.func199 (by kernel_rfl) (rArity_ev.and (re_loop l hl i hlt t ht ha ih) |>.imp fun k ⟨h, h2⟩ ro gl => ?_)
      have h := h t.op
      have tail : ∀ S : St, S.hav [0, 1, 5, 6] = reS l i (i + 1) 0 gl gl.length → loopC Tryz.prog cf 199 (ev k) k (bodyOf Tryz.f199 0) S = _ := fun S hS => h2 gl gl.length S hS
      simp -implicitDefEqProofs [Tryz.f199, hng, hil', hlt', hlt, hme, Tm.c, h, ha, w]
      refine bind_go (tail _ ?_) ?_
      · simp [reS]
      · cases eat (arity t.op).toNat (l.drop (i + 1)) with
        | none => simp
        | some m => simp [reS]; omega
theorem rEnd_all (l : List Tm) (hl : l.length < 2305843009213693952) : ∀ (d i : Nat), l.length + 2 - i = d → Evt fun k => ∀ next, i ≤ next → next ≤ l.length + 1 → ∀ ro gl, ev k 199 [L (l.map Tm.c), I (next : Nat)] ro gl = some (V.int .i64 (endV l next), gl)
  | 0, i, hd => .of fun k next h1 h2 => by omega
  | d + 1, i, hd => by
    have ih := rEnd_all l hl d (i + 1) (by omega)
    have one := rEnd_one l hl i (by omega) (ih.imp fun k h next h1 h2 => h next h1 h2)
    refine (ih.and one).imp fun k ⟨h, h'⟩ next h1 h2 => ?_
    rcases Nat.lt_or_ge i next with hlt | hge
    · exact h next hlt h2
    · obtain rfl : next = i := by omega
      exact h'
theorem rEnd_ev (l : List Tm) (hl : l.length < 2305843009213693952) (i : Nat) (hi : i ≤ l.length + 1) : Gives 199 [L (l.map Tm.c), I i] (V.int .i64 (endV l i)) :=
  (rEnd_all l hl _ 0 rfl).imp fun k h => h i (Nat.zero_le _) hi
end Go.Proofs.YtckonoejmjblfaaGreatDoor.Ev

/- Layer 5: whole expressions; terms that are the same. -/
set_option linter.unusedVariables false
set_option linter.unusedSimpArgs false
set_option maxRecDepth 100000
set_option maxHeartbeats 4000000
namespace Go.Proofs.YtckonoejmjblfaaGreatDoor.Ev
open Go Go.RowKit

def wholeB (l : List Tm) : Bool := decide (l.length ≤ 40) && decide (endV l 0 = l.length)
theorem endV_nil : endV [] 0 = -1 := rfl
theorem whole_ev (l : List Tm) (hl : l.length < 2305843009213693952) : Gives 188 [L (l.map Tm.c)] (V.bool (wholeB l)) := by
  have e0 : Gives 250 [L (l.map Tm.c), .w (.d (.int .i64 0))] (V.int .i64 (endV l 0)) := by simpa using End_ev l hl 0 (by omega)
  refine .intro Tryz.func188 (by kernel_rfl) (e0.imp fun k h ro gl => ?_)
  unfold wholeB
  rcases l with _ | ⟨t, r⟩
  · simp -implicitDefEqProofs [Tryz.f188, endV_nil]
  · have g0 : (0 : Int) < r.length + 1 := by omega
    generalize endV (t :: r) 0 = v at h ⊢
    simp only [List.map_cons] at h
    by_cases h1 : r.length + 1 ≤ 40
    · have h1' : (r.length : Int) + 1 ≤ 40 := by omega
      simp -implicitDefEqProofs [Tryz.f188, g0, h, h1, h1']
    · have h1' : ¬ (r.length : Int) + 1 ≤ 40 := by omega
      simp -implicitDefEqProofs [Tryz.f188, g0, h, h1, h1']
theorem rWhole_ev (l : List Tm) (hl : l.length < 2305843009213693952) : Gives 155 [L (l.map Tm.c)] (V.bool (wholeB l)) := by
  have e0 : Gives 199 [L (l.map Tm.c), .w (.d (.int .i64 0))] (V.int .i64 (endV l 0)) := by simpa using rEnd_ev l hl 0 (by omega)
  refine .intro Tryz.func155 (by kernel_rfl) (e0.imp fun k h ro gl => ?_)
  unfold wholeB
  generalize endV l 0 = v at h ⊢
  by_cases h1 : l.length ≤ 40
  · have h1' : (l.length : Int) ≤ 40 := by omega
    simp -implicitDefEqProofs [Tryz.f155, h, h1, h1']
  · have h1' : ¬ (l.length : Int) ≤ 40 := by omega
    simp -implicitDefEqProofs [Tryz.f155, h, h1, h1']
end Go.Proofs.YtckonoejmjblfaaGreatDoor.Ev
