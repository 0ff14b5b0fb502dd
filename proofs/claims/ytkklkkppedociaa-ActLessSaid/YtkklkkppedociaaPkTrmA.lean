/- Layers 5, 6: what is told of one term's deed. -/
import Derived.Test.YtkklkkppedociaaPkLib
import Derived.Test.YtkklkkppedociaaEvR
set_option linter.unusedVariables false
set_option linter.unusedSimpArgs false
set_option maxRecDepth 100000
set_option maxHeartbeats 4000000
namespace Go.Proofs.Ytkklkkppedociaa.Ev
open Go Go.RowKit

/-- A function of one int, whatever it is. -/
def FnI (f : Nat) (g : Int → Int) : Prop := Evt fun k => ∀ (x : Int) ro gl, ev k f [I x] ro gl = some (V.int .i64 (g x), gl)
theorem FnI.intro {f : Nat} {fn : Func} {g : Int → Int} (hf : Try.prog.funcs[f]? = some fn) (hn : (fnOk cf f fn && (xtL.lookup f).isNone) = true)
    (h : Evt fun n => ∀ (x : Int) ro gl, bodyA Try.prog cf f (ev n) n fn [I x] ro gl = some (V.int .i64 (g x), gl)) : FnI f g :=
  Evt.up (fun _ q => ∀ (x : Int) ro gl, q [I x] ro gl = some (V.int .i64 (g x), gl)) hf hn h fun _ _ h => h
theorem twenty {x : Int} (h1 : ¬ x < 1) (h2 : ¬ 20 < x) : x = 1 ∨ x = 2 ∨ x = 3 ∨ x = 4 ∨ x = 5 ∨ x = 6 ∨ x = 7 ∨ x = 8 ∨ x = 9 ∨ x = 10 ∨ x = 11 ∨ x = 12 ∨ x = 13 ∨ x = 14 ∨ x = 15 ∨ x = 16 ∨ x = 17 ∨ x = 18 ∨ x = 19 ∨ x = 20 := by omega
def arity (x : Int) : Int := if x < 1 then -1 else if 20 < x then -1 else if x = 3 ∨ x = 12 then 1 else if x ≤ 2 ∨ (9 ≤ x ∧ x ≤ 11) then 0 else 2
theorem Arity_ev : FnI 85 arity := by
  refine .intro Try.func85 (by kernel_rfl) (.of fun k x ro gl => ?_)
  unfold arity
  by_cases h1 : x < 1
  · simp -implicitDefEqProofs [Try.f85, h1]
  · by_cases h2 : 20 < x
    · simp -implicitDefEqProofs [Try.f85, h1, h2]
    · rcases twenty h1 h2 with h | h | h | h | h | h | h | h | h | h | h | h | h | h | h | h | h | h | h | h <;> subst h <;>
        simp -implicitDefEqProofs [Try.f85]
def levelI (x : Int) : Int := if x = 20 then 1 else if x = 19 then 2 else if x = 12 then 3 else if 13 ≤ x ∧ x ≤ 18 then 4 else if x = 4 ∨ x = 5 then 5 else if x = 6 then 6 else if x = 3 then 7 else 8
theorem level_ev : FnI 105 levelI := by
  refine .intro Try.func105 (by kernel_rfl) (.of fun k x ro gl => ?_)
  by_cases h : x = 3 ∨ x = 4 ∨ x = 5 ∨ x = 6 ∨ x = 12 ∨ x = 13 ∨ x = 14 ∨ x = 15 ∨ x = 16 ∨ x = 17 ∨ x = 18 ∨ x = 19 ∨ x = 20
  · rcases h with h | h | h | h | h | h | h | h | h | h | h | h | h <;> subst h <;>
      simp -implicitDefEqProofs [Try.f105, levelI]
  · simp only [not_or] at h
    obtain ⟨h3, h4, h5, h6, h12, h13, h14, h15, h16, h17, h18, h19, h20⟩ := h
    have e : levelI x = 8 := by
      unfold levelI
      rw [if_neg h20, if_neg h19, if_neg h12, if_neg (by omega), if_neg (by omega), if_neg h6, if_neg h3]
    rw [e]
    simp -implicitDefEqProofs [Try.f105, h3, h4, h5, h6, h12, h13, h14, h15, h16, h17, h18, h19, h20]
def leftI (x : Int) : Int := if levelI x = 4 then 5 else levelI x
theorem left_ev : FnI 106 leftI := by
  refine .intro Try.func106 (by kernel_rfl) (level_ev.imp fun k h x ro gl => ?_)
  have h := h x
  unfold leftI
  by_cases h4 : levelI x = 4
  · simp -implicitDefEqProofs [Try.f106, h, h4]
  · simp -implicitDefEqProofs [Try.f106, h, h4]
/-- What stands between two expressions. -/
def signB (x : Int) : List UInt8 :=
  if x = 4 then [43] else if x = 5 then [45] else if x = 6 then [42] else if x = 13 then [61, 61] else if x = 14 then [33, 61] else if x = 15 then [60] else if x = 16 then [60, 61] else if x = 17 then [62] else if x = 18 then [62, 61]
  else if x = 19 then [97, 110, 100] else if x = 20 then [111, 114] else []
theorem sign_ev : Evt fun k => ∀ (x : Int) ro gl, 1 ≤ x → x ≤ 20 → ev k 107 [I x] ro gl = some (V.str (signB x), gl) := by
  refine Evt.up (fun _ q => ∀ (x : Int) ro gl, 1 ≤ x → x ≤ 20 → q [I x] ro gl = some (V.str (signB x), gl)) Try.func107 (by kernel_rfl) (.of fun k x ro gl h1 h2 => ?_) fun _ _ h => h
  rcases twenty (x := x) (by omega) (by omega) with h | h | h | h | h | h | h | h | h | h | h | h | h | h | h | h | h | h | h | h <;> subst h <;>
    simp -implicitDefEqProofs [Try.f107, signB]
end Go.Proofs.Ytkklkkppedociaa.Ev

/- Layer 5: where an expression ends, as the program finds it. -/
set_option linter.unusedVariables false
set_option linter.unusedSimpArgs false
set_option maxRecDepth 100000
set_option maxHeartbeats 4000000
namespace Go.Proofs.Ytkklkkppedociaa.Ev
open Go Go.RowKit

structure Tm where
  op : Int
  n : Int
  name : List UInt8
deriving DecidableEq
def Tm.c (t : Tm) : List D := [.int .i64 t.op, .int .i64 t.n, .str t.name]
/-- How many terms close so many expressions. -/
def eat : Nat → List Tm → Option Nat
  | 0, _ => some 0
  | _ + 1, [] => none
  | n + 1, t :: r => if arity t.op < 0 then none else (eat (n + (arity t.op).toNat) r).map (· + 1)
def endV (l : List Tm) (i : Nat) : Int := match eat 1 (l.drop i) with
  | some k => i + k
  | none => -1
theorem arity_le (x : Int) : -1 ≤ arity x ∧ arity x ≤ 2 := by
  unfold arity
  repeat' split
  all_goals omega
def enS (l : List Tm) (i : Nat) (lacks : Nat) (gl : List (List W)) (ro : Nat) : St := st 37 [(0, .c (L (l.map Tm.c))), (1, V.int .i64 i), (5, V.int .i64 lacks)] [] [] gl ro
theorem en_loop (l : List Tm) (hl : l.length < 2305843009213693952) : Evt fun k => ∀ gl ro n i lacks S, l.length < n + i → i < 4611686018427387904 → lacks ≤ 2 * i + 1 → 0 < n → S.hav [0, 1, 5] = enS l i lacks gl ro →
    loopA (evC Try.prog cf 122 (ev k) k (bodyOf Try.f122 0)) [0, 1, 5] [4] n S = some (match eat lacks (l.drop i) with
      | some k => (.exit 0, enS l (i + k) 0 gl ro)
      | none => (.ret, st 37 [(4, V.int .i64 (-1))] [] [] gl ro)) := by
  refine Arity_ev.imp fun k h gl ro n => ?_
  induction n with
  | zero => intro i lacks S _ _ _ h0; omega
  | succ n ih =>
    intro i lacks S hn hi hla _ hS
    cases lacks with
    | zero =>
      have e : eat 0 (l.drop i) = some 0 := by cases l.drop i <;> rfl
      rw [e]
      refine loop_exit ?_
      rw [hS]
      simp -implicitDefEqProofs [enS, bodyOf, loopsOf, hv, Try.f122]
    | succ q =>
      have g0 : (0 : Int) < (q : Int) + 1 := by omega
      have hng : ¬ (i : Int) < 0 := by omega
      by_cases hil : l.length ≤ i
      · have hil' : (l.length : Int) ≤ i := by omega
        rw [List.drop_of_length_le hil]
        refine loop_ret ?_
        rw [hS]
        simp -implicitDefEqProofs [enS, bodyOf, loopsOf, hv, Try.f122, g0, hng, hil']
      · have hlt : i < l.length := by omega
        have hil' : ¬ (l.length : Int) ≤ i := by omega
        have hlt' : (i : Int) < l.length := by omega
        have hd : l.drop i = l[i] :: l.drop (i + 1) := List.drop_eq_getElem_cons hlt
        have hc : l[i]? = some l[i] := List.getElem?_eq_getElem hlt
        generalize l[i] = t at hd hc
        have h := h t.op
        obtain ⟨a1, a2⟩ := arity_le t.op
        rw [hd]
        by_cases ha : arity t.op < 0
        · rw [show eat (q + 1) (t :: l.drop (i + 1)) = none by rw [eat, if_pos ha]]
          refine loop_ret ?_
          rw [hS]
          simp -implicitDefEqProofs [enS, bodyOf, loopsOf, hv, Try.f122, g0, hng, hil', hlt', hc, Tm.c, h, ha]
        · have w1 : IntKind.i64.wrap (arity t.op - 1) = arity t.op - 1 := i64w _ (by omega)
          have w2 : IntKind.i64.wrap ((q : Int) + 1 + (arity t.op - 1)) = (q : Int) + 1 + (arity t.op - 1) := i64w _ (by omega)
          have w3 : IntKind.i64.wrap ((i : Int) + 1) = (i : Int) + 1 := i64w _ (by omega)
          have e : ((q + (arity t.op).toNat : Nat) : Int) = (q : Int) + 1 + (arity t.op - 1) := by omega
          have round : (evC Try.prog cf 122 (ev k) k (bodyOf Try.f122 0) (enS l i (q + 1) gl ro)).map (hv [0, 1, 5]) = some (.normal, enS l (i + 1) (q + (arity t.op).toNat) gl ro) := by
            have hme : l[i] = t := (List.getElem?_eq_some_iff.1 hc).2
            unfold enS
            rw [e]
            simp -implicitDefEqProofs [bodyOf, loopsOf, hv, Try.f122, g0, hng, hil', hlt', hlt, hme, Tm.c, h, ha, w1, w2, w3]
          rw [← hS] at round
          obtain ⟨S', hS', e'⟩ := loop_on round
          rw [e', ih (i + 1) (q + (arity t.op).toNat) S' (by omega) (by omega) (by omega) (by omega) hS', show eat (q + 1) (t :: l.drop (i + 1)) = (eat (q + (arity t.op).toNat) (l.drop (i + 1))).map (· + 1) by rw [eat, if_neg ha]]
          cases eat (q + (arity t.op).toNat) (l.drop (i + 1)) with
          | none => rfl
          | some m => simp only [Option.map_some]; rw [show i + 1 + m = i + (m + 1) by omega]
theorem End_ev (l : List Tm) (hl : l.length < 2305843009213693952) (i : Nat) (hi : i < 4611686018427387904) : Gives 122 [L (l.map Tm.c), I i] (V.int .i64 (endV l i)) := by
  refine .intro Try.func122 (by kernel_rfl) ((en_loop l hl).and (Evt.ge (l.length + 1)) |>.imp fun k ⟨h, hk⟩ ro gl => ?_)
  have tail : ∀ S : St, S.hav [0, 1, 5] = enS l i 1 gl gl.length → loopC Try.prog cf 122 (ev k) k (bodyOf Try.f122 0) S = _ := fun S hS => h gl gl.length k i 1 S (by omega) hi (by omega) (by omega) hS
  unfold endV
  simp -implicitDefEqProofs [Try.f122]
  refine bind_go (tail _ ?_) ?_
  · simp [enS]
  · cases eat 1 (l.drop i) with
    | none => simp
    | some m => simp [enS]
end Go.Proofs.Ytkklkkppedociaa.Ev

/- Layer 5: where an expression ends, as the document finds it. -/
set_option linter.unusedVariables false
set_option linter.unusedSimpArgs false
set_option maxRecDepth 100000
set_option maxHeartbeats 4000000
namespace Go.Proofs.Ytkklkkppedociaa.Ev
open Go Go.RowKit

theorem eat_le : ∀ (n : Nat) (r : List Tm) (k : Nat), eat n r = some k → k ≤ r.length
  | 0, r, k, h => by
    have : eat 0 r = some 0 := by cases r <;> rfl
    rw [this] at h
    cases h
    exact Nat.zero_le _
  | n + 1, [], k, h => by simp [eat] at h
  | n + 1, t :: r, k, h => by
    rw [eat] at h
    split at h
    · cases h
    · rw [Option.map_eq_some_iff] at h
      obtain ⟨m, hm, rfl⟩ := h
      have := eat_le _ _ _ hm
      simp only [List.length_cons]
      omega
theorem eat_add : ∀ (r : List Tm) (a b : Nat), eat (a + b) r = (eat a r).bind fun k => (eat b (r.drop k)).map (· + k)
  | r, 0, b => by
    have : eat 0 r = some 0 := by cases r <;> rfl
    rw [this, Nat.zero_add]
    simp
  | [], a + 1, b => by
    rw [show a + 1 + b = (a + b) + 1 by omega]
    rfl
  | t :: r, a + 1, b => by
    rw [show a + 1 + b = (a + b) + 1 by omega, eat, eat]
    split
    · rfl
    · rw [show a + b + (arity t.op).toNat = (a + (arity t.op).toNat) + b by omega, eat_add r (a + (arity t.op).toNat) b]
      cases eat (a + (arity t.op).toNat) r with
      | none => rfl
      | some k =>
        simp only [Option.bind_some, Option.map_some, List.drop_succ_cons, Option.map_map]
        congr 1
def reS (l : List Tm) (i next j : Nat) (gl : List (List W)) (ro : Nat) : St := st 42 [(0, .c (L (l.map Tm.c))), (1, V.int .i64 i), (5, V.int .i64 next), (6, V.int .i64 j)] [] [] gl ro
end Go.Proofs.Ytkklkkppedociaa.Ev

/- Layer 5: whole expressions; terms that are the same. -/
set_option linter.unusedVariables false
set_option linter.unusedSimpArgs false
set_option maxRecDepth 100000
set_option maxHeartbeats 4000000
namespace Go.Proofs.Ytkklkkppedociaa.Ev
open Go Go.RowKit

def wholeB (l : List Tm) : Bool := decide (l.length ≤ 40) && decide (endV l 0 = l.length)
theorem endV_nil : endV [] 0 = -1 := rfl
theorem whole_ev (l : List Tm) (hl : l.length < 2305843009213693952) : Gives 98 [L (l.map Tm.c)] (V.bool (wholeB l)) := by
  have e0 : Gives 122 [L (l.map Tm.c), .w (.d (.int .i64 0))] (V.int .i64 (endV l 0)) := by simpa using End_ev l hl 0 (by omega)
  refine .intro Try.func98 (by kernel_rfl) (e0.imp fun k h ro gl => ?_)
  unfold wholeB
  rcases l with _ | ⟨t, r⟩
  · simp -implicitDefEqProofs [Try.f98, endV_nil]
  · have g0 : (0 : Int) < r.length + 1 := by omega
    generalize endV (t :: r) 0 = v at h ⊢
    simp only [List.map_cons] at h
    by_cases h1 : r.length + 1 ≤ 40
    · have h1' : (r.length : Int) + 1 ≤ 40 := by omega
      simp -implicitDefEqProofs [Try.f98, g0, h, h1, h1']
    · have h1' : ¬ (r.length : Int) + 1 ≤ 40 := by omega
      simp -implicitDefEqProofs [Try.f98, g0, h, h1, h1']
end Go.Proofs.Ytkklkkppedociaa.Ev
