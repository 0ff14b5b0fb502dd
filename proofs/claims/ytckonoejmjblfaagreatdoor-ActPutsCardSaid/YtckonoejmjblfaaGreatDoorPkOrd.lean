/- Rows of numbers held against each other; by whatever other functions' answers. -/
import Derived.Test.YtckonoejmjblfaaGreatDoorPkEvOR
set_option linter.unusedVariables false
set_option linter.unusedSimpArgs false
set_option maxRecDepth 100000
set_option maxHeartbeats 4000000
namespace Go.Proofs.YtckonoejmjblfaaGreatDoor.Ev
open Go Go.RowKit

/-- A call that shares nothing comes to r, whatever functions are known otherwise. -/
def GivesX (x : Nat → Option Caller) (f : Nat) (args : List C) (r : V) : Prop := Evt fun n => ∀ ro gl, evF Tryz.prog cf x n f args ro gl = some (r, gl)
theorem GivesX.intro {x : Nat → Option Caller} {f : Nat} {fn : Func} {args : List C} {r : V} (hx : x f = none) (hf : Tryz.prog.funcs[f]? = some fn) (hn : fnOk cf f fn = true)
    (h : Evt fun n => ∀ ro gl, bodyA Tryz.prog cf f (evF Tryz.prog cf x n) n fn args ro gl = some (r, gl)) : GivesX x f args r := by
  obtain ⟨a, h⟩ := h
  refine ⟨a + 1, fun n hn' ro gl => ?_⟩
  obtain ⟨m, rfl⟩ : ∃ m, n = m + 1 := ⟨n - 1, by omega⟩
  rw [evF_step hx hf hn]
  exact h m (by omega) ro gl
def cmpI (a b : Int) : Int := if a < b then -1 else if b < a then 1 else 0
def Sli (l : List Int) : C := L (l.map fun v => [D.int .i64 v])
def Arr (l : List Int) : C := .agg (l.map fun v => W.d (.int .i64 v))
section
variable {x : Nat → Option Caller}
theorem isNaN_x (hx : x 281 = none) (a : Int) : GivesX x 281 [I a] (V.bool false) := by
  refine .intro hx Tryz.func281 (by kernel_rfl) (Evt.of fun k ro gl => ?_)
  simp -implicitDefEqProofs [Tryz.f281]
theorem cmpCompare_x (hx : x 281 = none) (hx2 : x 249 = none) (a b : Int) : GivesX x 249 [I a, I b] (V.int .i64 (cmpI a b)) := by
  have h1 := isNaN_x hx a
  have h2 := isNaN_x hx b
  refine .intro hx2 Tryz.func249 (by kernel_rfl) ((h1.and h2).imp fun k ⟨h1, h2⟩ ro gl => ?_)
  unfold cmpI
  by_cases q1 : a < b
  · simp -implicitDefEqProofs [Tryz.f249, h1, h2, q1]
  · by_cases q2 : b < a
    · simp -implicitDefEqProofs [Tryz.f249, h1, h2, q1, q2]
    · simp -implicitDefEqProofs [Tryz.f249, h1, h2, q1, q2]
def scS (a b : List Int) (i : Nat) (gl : List (List W)) (ro : Nat) : St := st 36 [(0, .c (Sli a)), (1, .c (Sli b)), (9, .c (Sli a)), (10, V.int .i64 a.length), (11, V.int .i64 i)] [] [] gl ro
/-- What the loop comes to: a verdict, or nothing. -/
def scV : List Int → List Int → Option Int
  | [], _ => none
  | _ :: _, [] => some 1
  | a :: r, b :: q => if a < b then some (-1) else if b < a then some 1 else scV r q
theorem sc_loop (call : Caller) (N : Nat) (gl : List (List W)) (ro : Nat) (a b : List Int) (hl : a.length < 2305843009213693952) (hl' : b.length < 2305843009213693952) (hc : ∀ u ∈ a, ∀ v ∈ b, call 249 [I u, I v] gl.length gl = some (V.int .i64 (cmpI u v), gl)) (n : Nat) (hn : a.length < n) (S : St) (hS : S.hav [0, 1, 9, 10, 11] = scS a b 0 gl ro) :
    loopA (evC Tryz.prog cf 187 call N (bodyOf Tryz.f187 0)) [0, 1, 9, 10, 11] [4] n S = some (match scV a b with | none => (.exit 0, scS a b a.length gl ro) | some v => (.ret, st 36 [(4, V.int .i64 v)] [] [] gl ro)) := by
  refine loop_by (keep := [0, 1, 9, 10, 11]) (res := [4]) (fun i : Nat => scS a b i gl ro) (fun i => i ≤ a.length) (fun i => a.length - i) (fun i => match scV (a.drop i) (b.drop i) with | none => (.exit 0, scS a b a.length gl ro) | some v => (.ret, st 36 [(4, V.int .i64 v)] [] [] gl ro)) ?_ n 0 S (Nat.zero_le _) (by omega) hS
  intro i hi
  by_cases h : i = a.length
  · subst h
    refine .inr (.inl ⟨0, scS a b a.length gl ro, ?_, ?_⟩)
    · simp -implicitDefEqProofs [scS, Sli, bodyOf, loopsOf, hv, Tryz.f187]
    · rw [List.drop_of_length_le (Nat.le_refl _)]; rfl
  · have h1 : i < a.length := by omega
    have h1' : (i : Int) < a.length := by omega
    have da : a.drop i = a[i] :: a.drop (i + 1) := List.drop_eq_getElem_cons h1
    have ca : a[i]? = some a[i] := List.getElem?_eq_getElem h1
    generalize a[i] = u at da ca
    have hu : a[i] = u := (List.getElem?_eq_some_iff.1 ca).2
    have w : IntKind.i64.wrap ((i : Int) + 1) = (i : Int) + 1 := i64w _ (by omega)
    by_cases h2 : i < b.length
    · have h2' : (i : Int) < b.length := by omega
      have h2'' : ¬ (b.length : Int) ≤ i := by omega
      have db : b.drop i = b[i] :: b.drop (i + 1) := List.drop_eq_getElem_cons h2
      have cb : b[i]? = some b[i] := List.getElem?_eq_getElem h2
      generalize b[i] = v at db cb
      have hv' : b[i] = v := (List.getElem?_eq_some_iff.1 cb).2
      have hcc := hc u (List.mem_of_getElem? ca) v (List.mem_of_getElem? cb)
      unfold cmpI at hcc
      by_cases q1 : u < v
      · rw [if_pos q1] at hcc
        refine .inr (.inr ⟨st 36 [(4, V.int .i64 (-1))] [] [] gl ro, ?_, by rw [da, db]; simp [scV, q1]⟩)
        simp -implicitDefEqProofs [scS, Sli, bodyOf, loopsOf, hv, Tryz.f187, h1, h2, h1', h2', h2'', hu, hv', hcc]
      · by_cases q2 : v < u
        · rw [if_neg q1, if_pos q2] at hcc
          refine .inr (.inr ⟨st 36 [(4, V.int .i64 1)] [] [] gl ro, ?_, by rw [da, db]; simp [scV, q1, q2]⟩)
          simp -implicitDefEqProofs [scS, Sli, bodyOf, loopsOf, hv, Tryz.f187, h1, h2, h1', h2', h2'', hu, hv', hcc]
        · rw [if_neg q1, if_neg q2] at hcc
          refine .inl ⟨i + 1, by omega, by omega, ?_, by rw [da, db]; simp [scV, q1, q2]⟩
          simp -implicitDefEqProofs [scS, Sli, bodyOf, loopsOf, hv, Tryz.f187, h1, h2, h1', h2', h2'', hu, hv', hcc, w]
    · have h2' : (b.length : Int) ≤ i := by omega
      refine .inr (.inr ⟨st 36 [(4, V.int .i64 1)] [] [] gl ro, ?_, by rw [da, List.drop_of_length_le (by omega : b.length ≤ i)]; rfl⟩)
      simp -implicitDefEqProofs [scS, Sli, bodyOf, loopsOf, hv, Tryz.f187, h1, h1', h2', hu]
theorem cmpL_sc : ∀ a b : List Int, cmpL a b = match scV a b with | some v => v | none => if a.length < b.length then -1 else 0
  | [], [] => rfl
  | [], _ :: _ => by simp [cmpL, scV]
  | _ :: _, [] => rfl
  | a :: r, b :: q => by
    simp only [cmpL, scV]
    split
    · rfl
    · split
      · rfl
      · rw [cmpL_sc r q]; simp
theorem slicesCompare_x (hx : x 281 = none) (hx2 : x 249 = none) (hx3 : x 187 = none) (a b : List Int) (hl : a.length < 1000000) (hl' : b.length < 1000000) : GivesX x 187 [Sli a, Sli b] (V.int .i64 (cmpL a b)) := by
  have h1 : Evt fun k => ∀ u ∈ a, ∀ v ∈ b, ∀ ro gl, evF Tryz.prog cf x k 249 [I u, I v] ro gl = some (V.int .i64 (cmpI u v), gl) := Evt.all a fun u _ => Evt.all b fun v _ => cmpCompare_x hx hx2 u v
  refine .intro hx3 Tryz.func187 (by kernel_rfl) ((h1.and (Evt.ge (a.length + 1))).imp fun k ⟨h1, hk⟩ ro gl => ?_)
  have tail : ∀ S : St, S.hav [0, 1, 9, 10, 11] = scS a b 0 gl gl.length → loopC Tryz.prog cf 187 (evF Tryz.prog cf x k) k (bodyOf Tryz.f187 0) S = _ := fun S hS => sc_loop (evF Tryz.prog cf x k) k gl gl.length a b (by omega) (by omega) (fun u hu v hv => h1 u hu v hv gl.length gl) k (by omega) S hS
  rw [cmpL_sc]
  simp -implicitDefEqProofs [Tryz.f187, Sli]
  refine bind_go (tail _ ?_) ?_
  · simp [scS, Sli]
  · cases hs : scV a b with
    | some v => simp
    | none =>
      by_cases hab : a.length < b.length
      · have hab' : (a.length : Int) < b.length := by omega
        simp [scS, Sli, hab, hab']
      · have hab' : ¬ (a.length : Int) < b.length := by omega
        simp [scS, Sli, hab, hab']
theorem compare_x (hx : x 281 = none) (hx2 : x 249 = none) (hx3 : x 187 = none) (hx4 : x 129 = none) (p q : Q4) : GivesX x 129 [p.w, q.w] (V.int .i64 (cmpL p.l q.l)) := by
  have h1 := slicesCompare_x hx hx2 hx3 p.l q.l (by simp [Q4.l]) (by simp [Q4.l])
  refine .intro hx4 Tryz.func129 (by kernel_rfl) (h1.imp fun k h1 ro gl => ?_)
  simp only [Sli, Q4.l, List.map_cons, List.map_nil] at h1
  simp -implicitDefEqProofs [Tryz.f129, Q4.w, h1, Q4.l]
end
theorem cmp_lt (p q : Q4) : cmpL p.l q.l < 0 ↔ p.a < q.a ∨ (p.a = q.a ∧ (p.b < q.b ∨ (p.b = q.b ∧ (p.c < q.c ∨ (p.c = q.c ∧ p.d < q.d))))) := by
  simp only [Q4.l, cmpL]
  split
  · omega
  · split
    · omega
    · split
      · omega
      · split
        · omega
        · split
          · omega
          · split
            · omega
            · split
              · omega
              · split <;> omega
end Go.Proofs.YtckonoejmjblfaaGreatDoor.Ev
