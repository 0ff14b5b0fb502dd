/- Layer 8: which acts may be. -/
import Derived.Test.YtckonoejmjblfaaGreatDoorPkChk
import Derived.Test.YtckonoejmjblfaaGreatDoorPkEvaA
set_option linter.unusedVariables false
set_option linter.unusedSimpArgs false
set_option maxRecDepth 100000
set_option maxHeartbeats 4000000
namespace Go.Proofs.YtckonoejmjblfaaGreatDoor.Ev
open Go Go.RowKit

theorem checkV_ok {e : Tr} (hw : e.wf) (hm : ∀ t ∈ e.flat, t.may = true) (hl : e.flat.length ≤ 40) (hd : e.dep ≤ 12) : checkV e.flat = 0 := by
  have hwb : wholeB e.flat = true := by
    unfold wholeB
    simp only [Bool.and_eq_true, decide_eq_true_eq]
    exact ⟨hl, (whole_tree e.flat).2 ⟨e, hw, rfl⟩⟩
  have ha : (e.flat.any fun t => !t.may) = false := by
    rw [List.any_eq_false]
    intro t ht
    simp [hm t ht]
  unfold checkV
  rw [if_neg (by omega), hwb, ha, if_neg (by simp), depV_flat hw, if_neg (by omega)]
theorem checkV_tree {l : List Tm} (h0 : checkV l = 0) : ∃ e : Tr, e.wf ∧ l = e.flat ∧ (∀ t ∈ e.flat, t.may = true) ∧ e.flat.length ≤ 40 ∧ e.dep ≤ 12 := by
  unfold checkV at h0
  split at h0
  · cases h0
  · rename_i h40
    split at h0
    · cases h0
    · rename_i h1
      simp only [not_or] at h1
      obtain ⟨e, e1, e2⟩ := whole_of (l := l) (by simpa using h1.1)
      split at h0
      · cases h0
      · rename_i h12
        refine ⟨e, e1, e2, fun t ht => ?_, by rw [← e2]; omega, by rw [← depV_eq e1 e2]; omega⟩
        have := h1.2
        simp only [List.any_eq_true, not_exists, not_and] at this
        simpa using this t (by rw [e2]; exact ht)
theorem may_short {l : List Tm} (h : ∀ t ∈ l, t.may = true) : ∀ t ∈ l, t.name.length ≤ 9223372036854775807 := fun t ht => by
  have := (may_bd (h t ht)).1
  omega
structure Ac where
  name : List UInt8
  any : Bool
  expr : List Tm
def Ac.c (a : Ac) : List D := [.str a.name, .bool a.any, .sl (a.expr.map Tm.c)]
abbrev bAny : List UInt8 := [97, 110, 121]
abbrev bGets : List UInt8 := [58, 61]
/-- Why an act may not be. -/
def actE (a : Ac) : Int := if isName a.name = false then 1 else if a.any then (if a.expr = [] then 0 else 1) else checkV a.expr
def checkA (l : List Ac) : Int := if 8 < l.length then 8 else ((l.map actE).find? fun e => decide (e ≠ 0)).getD 0
def actT (a : Ac) : List UInt8 := if a.any then bAny ++ 32 :: a.name else a.name ++ 32 :: (bGets ++ 32 :: txtV a.expr)
/-- Acts' text. -/
def putA : List Ac → List UInt8
  | [] => []
  | [a] => actT a
  | a :: b :: r => actT a ++ 44 :: 32 :: putA (b :: r)
theorem checkA_all {l : List Ac} (h : checkA l = 0) : l.length ≤ 8 ∧ ∀ a ∈ l, actE a = 0 := by
  unfold checkA at h
  split at h
  · cases h
  · refine ⟨by omega, fun a ha => ?_⟩
    cases hf : (l.map actE).find? fun e => decide (e ≠ 0) with
    | none =>
      rw [List.find?_eq_none] at hf
      have := hf (actE a) (List.mem_map_of_mem ha)
      simpa using this
    | some e =>
      have hp := List.find?_some hf
      rw [hf] at h
      simp only [Option.getD_some] at h
      rw [h] at hp
      simp at hp
def Ac.w (a : Ac) : C := .agg [.d (.str a.name), .d (.bool a.any), .d (.sl (a.expr.map Tm.c))]
structure Ac.Ok (a : Ac) : Prop where
  name : a.name.length ≤ 9223372036854775807
  len : a.expr.length ≤ 9223372036854775807
  names : ∀ t ∈ a.expr, t.name.length ≤ 9223372036854775807
theorem amay_ev (a : Ac) (h : a.Ok) : Gives 77 [a.w] (V.int .i64 (actE a)) := by
  have h1 := nIs_all a.name h.name
  have h2 := Check_ev a.expr h.names h.len
  obtain ⟨nm, an, ex⟩ := a
  unfold actE
  simp only at h1 h2 ⊢
  refine .intro Tryz.func77 (by kernel_rfl) ((h1.and h2).imp fun k ⟨h1, h2⟩ ro gl => ?_)
  by_cases hn : isName nm = true
  · cases an with
    | true =>
      by_cases hx : ex = []
      · subst hx
        simp -implicitDefEqProofs [Tryz.f77, Ac.w, h1, hn]
      · have hx' : 0 < ex.length := List.length_pos_iff.2 hx
        simp -implicitDefEqProofs [Tryz.f77, Ac.w, h1, hn, hx, hx']
    | false => simp -implicitDefEqProofs [Tryz.f77, Ac.w, h1, h2, hn]
  · have hn : isName nm = false := by simpa using hn
    simp -implicitDefEqProofs [Tryz.f77, Ac.w, h1, hn]
theorem rOne_ev (a : Ac) (h : a.Ok) : Gives 76 [a.w] (V.int .i64 (actE a)) := by
  have h1 := rIs_all a.name h.name
  have h2 := rCheck_ev a.expr h.names h.len
  obtain ⟨nm, an, ex⟩ := a
  unfold actE
  simp only at h1 h2 ⊢
  refine .intro Tryz.func76 (by kernel_rfl) ((h1.and h2).imp fun k ⟨h1, h2⟩ ro gl => ?_)
  by_cases hn : isName nm = true
  · cases an with
    | true =>
      by_cases hx : ex = []
      · subst hx
        simp -implicitDefEqProofs [Tryz.f76, Ac.w, h1, hn]
      · have hx' : 0 < ex.length := List.length_pos_iff.2 hx
        simp -implicitDefEqProofs [Tryz.f76, Ac.w, h1, hn, hx, hx']
    | false => simp -implicitDefEqProofs [Tryz.f76, Ac.w, h1, h2, hn]
  · have hn : isName nm = false := by simpa using hn
    simp -implicitDefEqProofs [Tryz.f76, Ac.w, h1, hn]
/-- The first act that may not be. -/
def eA (l : List Ac) : Int := ((l.map actE).find? fun e => decide (e ≠ 0)).getD 0
theorem eA_nil : eA [] = 0 := rfl
theorem eA_cons (a : Ac) (r : List Ac) : eA (a :: r) = if actE a = 0 then eA r else actE a := by
  unfold eA
  rw [List.map_cons, List.find?_cons]
  by_cases h : actE a = 0
  · simp [h]
  · simp [h]
def acS (l : List Ac) (i : Nat) (gl : List (List W)) (ro : Nat) : St := st 21 [(9, .c (L (l.map Ac.c))), (10, V.int .i64 l.length), (11, V.int .i64 i)] [] [] gl ro
def acR (l r : List Ac) (gl : List (List W)) (ro : Nat) : Ex × St := if eA r = 0 then (.exit 0, acS l l.length gl ro) else (.ret, st 21 [(2, V.int .i64 (eA r))] [] [] gl ro)
theorem ac_loop (l : List Ac) (hl : l.length ≤ 8) (h : ∀ a ∈ l, a.Ok) : Evt fun k => ∀ gl ro S, S.hav [9, 10, 11] = acS l 0 gl ro →
    loopA (evC Tryz.prog cf 26 (ev k) k (bodyOf Tryz.f26 0)) [9, 10, 11] [2] k S = some (acR l l gl ro) := by
  have hm : Evt fun k => ∀ a ∈ l, ∀ ro gl, ev k 77 [a.w] ro gl = some (V.int .i64 (actE a), gl) := Evt.all l fun a ha => amay_ev a (h a ha)
  refine (hm.and (Evt.ge (l.length + 1))).imp fun k ⟨hm, hk⟩ gl ro S hS => ?_
  refine loop_by (keep := [9, 10, 11]) (res := [2]) (fun i : Nat => acS l i gl ro) (fun i => i ≤ l.length) (fun i => l.length - i) (fun i => acR l (l.drop i) gl ro) ?_ k 0 S (Nat.zero_le _) (by omega) hS
  intro i hi
  by_cases hi' : i = l.length
  · subst hi'
    refine .inr (.inl ⟨0, acS l l.length gl ro, ?_, ?_⟩)
    · simp -implicitDefEqProofs [acS, bodyOf, loopsOf, hv, Tryz.f26]
    · rw [List.drop_of_length_le (Nat.le_refl _)]; rfl
  · have h1 : i < l.length := by omega
    have h1' : (i : Int) < l.length := by omega
    have da : l.drop i = l[i] :: l.drop (i + 1) := List.drop_eq_getElem_cons h1
    have ca : l[i]? = some l[i] := List.getElem?_eq_getElem h1
    have hq := hm l[i] (List.getElem_mem h1)
    generalize l[i] = x at da ca hq
    have w : IntKind.i64.wrap ((i : Int) + 1) = (i : Int) + 1 := i64w _ (by omega)
    have hx : l[i] = x := (List.getElem?_eq_some_iff.1 ca).2
    have hc := eA_cons x (l.drop (i + 1))
    generalize actE x = e at hq hc
    obtain ⟨nm, an, ex⟩ := x
    simp [Ac.w] at hq
    by_cases hp : e = 0
    · subst hp
      refine .inl ⟨i + 1, by omega, by omega, ?_, ?_⟩
      · simp -implicitDefEqProofs [acS, bodyOf, loopsOf, hv, Tryz.f26, h1, h1', hx, Ac.c, w, hq]
      · rw [da]
        unfold acR
        rw [hc, if_pos rfl]
    · refine .inr (.inr ⟨st 21 [(2, V.int .i64 e)] [] [] gl ro, ?_, ?_⟩)
      · simp -implicitDefEqProofs [acS, bodyOf, loopsOf, hv, Tryz.f26, h1, h1', hx, Ac.c, w, hq, hp]
      · rw [da]
        unfold acR
        rw [hc, if_neg hp, if_neg hp]
theorem ACheck_ev (l : List Ac) (hl : l.length ≤ 9223372036854775807) (h : ∀ a ∈ l, a.Ok) : Gives 26 [L (l.map Ac.c)] (V.int .i64 (checkA l)) := by
  unfold checkA
  by_cases h8 : 8 < l.length
  · rw [if_pos h8]
    have j8 : (8 : Int) < l.length := by omega
    refine .intro Tryz.func26 (by kernel_rfl) (.of fun k ro gl => ?_)
    simp -implicitDefEqProofs [Tryz.f26, j8]
  · rw [if_neg h8, show ((l.map actE).find? fun e => decide (e ≠ 0)).getD 0 = eA l from rfl]
    have j8 : ¬ (8 : Int) < l.length := by omega
    refine .intro Tryz.func26 (by kernel_rfl) ((ac_loop l (by omega) h).imp fun k h' ro gl => ?_)
    have tail : ∀ S : St, S.hav [9, 10, 11] = acS l 0 gl gl.length → loopC Tryz.prog cf 26 (ev k) k (bodyOf Tryz.f26 0) S = _ := fun S hS => h' gl gl.length S hS
    simp -implicitDefEqProofs [Tryz.f26, j8]
    refine bind_go (tail _ ?_) ?_
    · simp [acS]
    · unfold acR
      by_cases he : eA l = 0
      · rw [if_pos he, he]; simp [acS]
      · rw [if_neg he]; simp
def rcS (l : List Ac) (i : Nat) (gl : List (List W)) (ro : Nat) : St := st 22 [(0, .c (L (l.map Ac.c))), (3, V.int .i64 i)] [] [] gl ro
def rcR (l r : List Ac) (gl : List (List W)) (ro : Nat) : Ex × St := if eA r = 0 then (.exit 0, rcS l l.length gl ro) else (.ret, st 22 [(2, V.int .i64 (eA r))] [] [] gl ro)
theorem rc_loop (l : List Ac) (hl : l.length ≤ 8) (h : ∀ a ∈ l, a.Ok) : Evt fun k => ∀ gl ro S, S.hav [0, 3] = rcS l 0 gl ro →
    loopA (evC Tryz.prog cf 25 (ev k) k (bodyOf Tryz.f25 0)) [0, 3] [2] k S = some (rcR l l gl ro) := by
  have hm : Evt fun k => ∀ a ∈ l, ∀ ro gl, ev k 76 [a.w] ro gl = some (V.int .i64 (actE a), gl) := Evt.all l fun a ha => rOne_ev a (h a ha)
  refine (hm.and (Evt.ge (l.length + 1))).imp fun k ⟨hm, hk⟩ gl ro S hS => ?_
  refine loop_by (keep := [0, 3]) (res := [2]) (fun i : Nat => rcS l i gl ro) (fun i => i ≤ l.length) (fun i => l.length - i) (fun i => rcR l (l.drop i) gl ro) ?_ k 0 S (Nat.zero_le _) (by omega) hS
  intro i hi
  by_cases hi' : i = l.length
  · subst hi'
    refine .inr (.inl ⟨0, rcS l l.length gl ro, ?_, ?_⟩)
    · simp -implicitDefEqProofs [rcS, bodyOf, loopsOf, hv, Tryz.f25]
    · rw [List.drop_of_length_le (Nat.le_refl _)]; rfl
  · have h1 : i < l.length := by omega
    have h1' : (i : Int) < l.length := by omega
    have da : l.drop i = l[i] :: l.drop (i + 1) := List.drop_eq_getElem_cons h1
    have ca : l[i]? = some l[i] := List.getElem?_eq_getElem h1
    have hq := hm l[i] (List.getElem_mem h1)
    generalize l[i] = x at da ca hq
    have w : IntKind.i64.wrap ((i : Int) + 1) = (i : Int) + 1 := i64w _ (by omega)
    have hx : l[i] = x := (List.getElem?_eq_some_iff.1 ca).2
    have hc := eA_cons x (l.drop (i + 1))
    generalize actE x = e at hq hc
    obtain ⟨nm, an, ex⟩ := x
    simp [Ac.w] at hq
    by_cases hp : e = 0
    · subst hp
      refine .inl ⟨i + 1, by omega, by omega, ?_, ?_⟩
      · simp -implicitDefEqProofs [rcS, bodyOf, loopsOf, hv, Tryz.f25, h1, h1', hx, Ac.c, w, hq]
      · rw [da]
        unfold rcR
        rw [hc, if_pos rfl]
    · refine .inr (.inr ⟨st 22 [(2, V.int .i64 e)] [] [] gl ro, ?_, ?_⟩)
      · simp -implicitDefEqProofs [rcS, bodyOf, loopsOf, hv, Tryz.f25, h1, h1', hx, Ac.c, w, hq, hp]
      · rw [da]
        unfold rcR
        rw [hc, if_neg hp, if_neg hp]
theorem rACheck_ev (l : List Ac) (hl : l.length ≤ 9223372036854775807) (h : ∀ a ∈ l, a.Ok) : Gives 25 [L (l.map Ac.c)] (V.int .i64 (checkA l)) := by
  unfold checkA
  by_cases h8 : 8 < l.length
  · rw [if_pos h8]
    have j8 : (8 : Int) < l.length := by omega
    refine .intro Tryz.func25 (by kernel_rfl) (.of fun k ro gl => ?_)
    simp -implicitDefEqProofs [Tryz.f25, j8]
  · rw [if_neg h8, show ((l.map actE).find? fun e => decide (e ≠ 0)).getD 0 = eA l from rfl]
    have j8 : ¬ (8 : Int) < l.length := by omega
    refine .intro Tryz.func25 (by kernel_rfl) ((rc_loop l (by omega) h).imp fun k h' ro gl => ?_)
    have tail : ∀ S : St, S.hav [0, 3] = rcS l 0 gl gl.length → loopC Tryz.prog cf 25 (ev k) k (bodyOf Tryz.f25 0) S = _ := fun S hS => h' gl gl.length S hS
    simp -implicitDefEqProofs [Tryz.f25, j8]
    refine bind_go (tail _ ?_) ?_
    · simp [rcS]
    · unfold rcR
      by_cases he : eA l = 0
      · rw [if_pos he, he]; simp [rcS]
      · rw [if_neg he]; simp
end Go.Proofs.YtckonoejmjblfaaGreatDoor.Ev

/- Layer 8: what acts come to: the plain words. -/
set_option linter.unusedVariables false
set_option linter.unusedSimpArgs false
set_option maxRecDepth 100000
set_option maxHeartbeats 4000000
namespace Go.Proofs.YtckonoejmjblfaaGreatDoor.Ev
open Go Go.RowKit

/-- The place of an act's variable, and why it can't be given a value. -/
def aimV (a : Ac) (vs : List Vr) : Int × Int :=
  if placeV vs a.name < 0 then (0, 7)
  else match vs[(placeV vs a.name).toNat]? with
    | none => (0, 7)
    | some v =>
      if a.any = true then (if v.hi < v.lo ∨ 63 < v.hi - v.lo then (0, 1) else (placeV vs a.name, 0))
      else if evalE a.expr vs ≠ 0 then (0, evalE a.expr vs)
      else if tyV a.expr ≠ 1 then (0, 4)
      else (placeV vs a.name, 0)
/-- All values that come of an act. -/
def giveV (a : Ac) (i : Int) (en : En) : List Q4 := match en.vars[i.toNat]? with
  | none => []
  | some v => if a.any = true then (List.range (v.hi - v.lo + 1).toNat).map fun (k : Nat) => en.vals.set i (v.lo + k)
    else [en.vals.set i (clamp (valV a.expr en) v.lo v.hi)]
def En.at (en : En) (q : Q4) : En := ⟨en.vars, q, en.ins⟩
/-- What one act makes of so many values. -/
def stepV (a : Ac) (en : En) (now : List Q4) : List Q4 := (now.flatMap fun q => giveV a (aimV a en.vars).1 (en.at q)).foldl withQ []
def runV (en : En) : List Ac → List Q4 → List Q4 × Int
  | [], now => (now, 0)
  | a :: r, now => if (aimV a en.vars).2 ≠ 0 then ([], (aimV a en.vars).2) else if 64 < (stepV a en now).length then ([], 12) else runV en r (stepV a en now)
def actsV (l : List Ac) (en : En) : List Q4 × Int := if 4 < en.vars.length then ([], 1) else if checkA l ≠ 0 then ([], checkA l) else runV en l [en.vals]
/-- An act that has an aim. -/
theorem aimV_ok {a : Ac} {vs : List Vr} (h : (aimV a vs).2 = 0) : ∃ v, 0 ≤ placeV vs a.name ∧ vs[(placeV vs a.name).toNat]? = some v ∧ (aimV a vs).1 = placeV vs a.name ∧ ((a.any = true ∧ v.lo ≤ v.hi ∧ v.hi - v.lo ≤ 63) ∨ (a.any = false ∧ evalE a.expr vs = 0 ∧ tyV a.expr = 1)) := by
  unfold aimV at h ⊢
  split at h
  · cases h
  · rename_i h0
    split at h
    · cases h
    · rename_i v hv
      refine ⟨v, by omega, hv, ?_⟩
      rw [if_neg h0]
      split at h
      · rename_i ha
        split at h
        · cases h
        · rename_i h1
          rw [if_pos ha, if_neg h1]
          exact ⟨rfl, .inl ⟨ha, by omega, by omega⟩⟩
      · rename_i ha
        split at h
        · exact absurd h (by assumption)
        · rename_i h1
          split at h
          · cases h
          · rename_i h2
            rw [if_neg ha, if_neg h1, if_neg h2]
            exact ⟨rfl, .inr ⟨by simpa using ha, by omega, by omega⟩⟩
theorem stepV_strict (a : Ac) (en : En) (now : List Q4) : Strict (stepV a en now) ∧ ∀ q, q ∈ stepV a en now ↔ ∃ p ∈ now, q ∈ giveV a (aimV a en.vars).1 (en.at p) := by
  unfold stepV
  obtain ⟨h1, h2⟩ := fold_strict (now.flatMap fun q => giveV a (aimV a en.vars).1 (en.at q)) [] List.Pairwise.nil
  refine ⟨h1, fun q => ?_⟩
  rw [h2]
  simp [List.mem_flatMap]
theorem runV_strict (en : En) : ∀ (l : List Ac) (now : List Q4), Strict now → Strict (runV en l now).1
  | [], now, h => h
  | a :: r, now, h => by
    unfold runV
    split
    · exact List.Pairwise.nil
    · split
      · exact List.Pairwise.nil
      · exact runV_strict en r _ (stepV_strict a en now).1
theorem Q4.get_set (q : Q4) (i k : Int) (x : Int) (hi : 0 ≤ i ∧ i < 4) (hk : 0 ≤ k ∧ k < 4) : (q.set i x).get k = if k = i then x else q.get k := by
  have h1 : i = 0 ∨ i = 1 ∨ i = 2 ∨ i = 3 := by omega
  have h2 : k = 0 ∨ k = 1 ∨ k = 2 ∨ k = 3 := by omega
  rcases h1 with rfl | rfl | rfl | rfl <;> rcases h2 with rfl | rfl | rfl | rfl <;> simp [Q4.get, Q4.set]
/-- What was in a variable's range stays in it. -/
def InR (en : En) (q : Q4) : Prop := ∀ (k : Nat) (v : Vr), k < 4 → en.vars[k]? = some v → v.lo ≤ en.vals.get k → en.vals.get k ≤ v.hi → v.lo ≤ q.get k ∧ q.get k ≤ v.hi
theorem giveV_in {a : Ac} {en : En} (h4 : en.vars.length ≤ 4) (h : (aimV a en.vars).2 = 0) {p q : Q4} (hp : InR en p) (hq : q ∈ giveV a (aimV a en.vars).1 (en.at p)) : InR en q := by
  obtain ⟨v, h0, hv, h1, hc⟩ := aimV_ok h
  have hl := placeV_lt4 h0
  rw [h1] at hq
  unfold giveV at hq
  simp only [En.at, hv] at hq
  have main : ∀ x : Int, q = p.set (placeV en.vars a.name) x → (v.lo ≤ v.hi → v.lo ≤ x ∧ x ≤ v.hi) → InR en q := by
    intro x hx hr k u hk hu u1 u2
    rw [hx, Q4.get_set _ _ _ _ ⟨h0, by omega⟩ ⟨by omega, by omega⟩]
    by_cases hkp : (k : Int) = placeV en.vars a.name
    · rw [if_pos hkp]
      have : k = (placeV en.vars a.name).toNat := by omega
      rw [this, hv] at hu
      cases hu
      exact hr (by omega)
    · rw [if_neg hkp]
      exact hp k u hk hu u1 u2
  rcases hc with ⟨ha, c1, c2⟩ | ⟨ha, c1, c2⟩
  · rw [if_pos ha, List.mem_map] at hq
    obtain ⟨k, hk, rfl⟩ := hq
    rw [List.mem_range] at hk
    exact main _ rfl fun _ => by omega
  · rw [if_neg (by simp [ha]), List.mem_singleton] at hq
    refine main _ hq fun hr => ?_
    unfold clamp
    split
    · omega
    · split <;> omega
theorem runV_in (en : En) (h4 : en.vars.length ≤ 4) : ∀ (l : List Ac) (now : List Q4), (∀ q ∈ now, InR en q) → ∀ q ∈ (runV en l now).1, InR en q
  | [], now, h => h
  | a :: r, now, h => by
    unfold runV
    split
    · simp
    · rename_i h0
      split
      · simp
      · refine runV_in en h4 r _ fun q hq => ?_
        obtain ⟨p, hp, hq⟩ := ((stepV_strict a en now).2 q).1 hq
        exact giveV_in h4 (by simpa using h0) (h p hp) hq
theorem actsV_ok (l : List Ac) (en : En) : Strict (actsV l en).1 ∧ ∀ q ∈ (actsV l en).1, InR en q := by
  unfold actsV
  split
  · exact ⟨List.Pairwise.nil, by simp⟩
  · split
    · exact ⟨List.Pairwise.nil, by simp⟩
    · refine ⟨runV_strict en l _ (by simp [Strict]), runV_in en (by omega) l _ fun q hq => ?_⟩
      rw [List.mem_singleton] at hq
      subst hq
      exact fun k v _ _ h1 h2 => ⟨h1, h2⟩
theorem giveV_len {a : Ac} {en : En} (h : (aimV a en.vars).2 = 0) (p : Q4) : 0 < (giveV a (aimV a en.vars).1 (en.at p)).length ∧ (giveV a (aimV a en.vars).1 (en.at p)).length ≤ 64 := by
  obtain ⟨v, h0, hv, h1, hc⟩ := aimV_ok h
  rw [h1]
  unfold giveV
  simp only [En.at, hv]
  rcases hc with ⟨ha, c1, c2⟩ | ⟨ha, c1, c2⟩
  · rw [if_pos ha]
    simp only [List.length_map, List.length_range]
    omega
  · rw [if_neg (by simp [ha])]
    simp
theorem gives_len {a : Ac} {en : En} (h : (aimV a en.vars).2 = 0) : ∀ now : List Q4, (now.flatMap fun q => giveV a (aimV a en.vars).1 (en.at q)).length ≤ 64 * now.length ∧ now.length ≤ (now.flatMap fun q => giveV a (aimV a en.vars).1 (en.at q)).length
  | [] => by simp
  | p :: r => by
    have ih := gives_len h r
    have := giveV_len h p
    simp only [List.flatMap_cons, List.length_append, List.length_cons]
    omega
end Go.Proofs.YtckonoejmjblfaaGreatDoor.Ev

/- Arguments of layers 7 and 8, as the model hands them in. -/
set_option linter.unusedVariables false
set_option linter.unusedSimpArgs false
set_option maxRecDepth 100000
set_option maxHeartbeats 4000000
namespace Go.Proofs.YtckonoejmjblfaaGreatDoor.Ev
open Go Go.RowKit

/-! As the model hands them in. -/
theorem len_3 {α : Type} {l : List α} (h : l.length = 3) : ∃ a b c, l = [a, b, c] := by
  match l, h with
  | [a, b, c], _ => exact ⟨a, b, c, rfl⟩
theorem cells_tm : Tryz.prog.cellsOf 44 = 3 := by kernel_rfl
theorem cells_ac : Tryz.prog.cellsOf 47 = 3 := by kernel_rfl
theorem cells_int : Tryz.prog.cellsOf 3 = 1 := by kernel_rfl
theorem cells_str : Tryz.prog.cellsOf 9 = 1 := by kernel_rfl
theorem cells_bool : Tryz.prog.cellsOf 4 = 1 := by kernel_rfl
theorem cells_tms : Tryz.prog.cellsOf 45 = 1 := by kernel_rfl
theorem cells_acs : Tryz.prog.cellsOf 39 = 1 := by kernel_rfl
theorem sh_str {K : Nat} {x : List D} (h : Shape Tryz.prog (K + 1) 9 x) : ∃ s, x = [.str s] := by
  simp only [Shape, Tryz.underlying9] at h
  obtain ⟨s, rfl, _⟩ := h
  exact ⟨s, rfl⟩
theorem sh_bool {K : Nat} {x : List D} (h : Shape Tryz.prog (K + 1) 4 x) : ∃ s, x = [.bool s] := by
  simp only [Shape, Tryz.underlying4] at h
  exact h
theorem shape_tm {K : Nat} {x : List D} (h : Shape Tryz.prog (K + 2) 44 x) : ∃ t : Tm, x = t.c := by
  simp only [Shape, Tryz.underlying44] at h
  obtain ⟨hl, hf⟩ := h
  rw [cells_tm] at hl
  obtain ⟨a, b, c, rfl⟩ := len_3 hl
  simp [cells_int, cells_str, Shape] at hf
  obtain ⟨⟨k, rfl, _⟩, ⟨n, rfl, _⟩, s, rfl, hs⟩ := hf
  exact ⟨⟨k, n, s⟩, rfl⟩
theorem map_any {α : Type} {f : α → List D} {p : List D → Prop} (h : ∀ x, p x → ∃ a, x = f a) : ∀ (xs : List (List D)), (∀ x ∈ xs, p x) → ∃ l : List α, xs = l.map f
  | [], _ => ⟨[], rfl⟩
  | x :: r, hx => by
    obtain ⟨a, rfl⟩ := h x (hx x (by simp))
    obtain ⟨l, rfl⟩ := map_any h r fun y hy => hx y (by simp [hy])
    exact ⟨a :: l, rfl⟩
theorem sl_shape {P : Program} {n e t : Nat} {x : List D} (hu : P.underlying t = some (.slice e)) (h : Shape P (n + 1) t x) : ∃ xs : List (List D), x = [.sl xs] ∧ ∀ y ∈ xs, Shape P n e y := by
  simp only [Shape, hu] at h
  obtain ⟨xs, h1, _, h2⟩ := h
  exact ⟨xs, h1, h2⟩
theorem sh_tms {K : Nat} {x : List D} (h : Shape Tryz.prog (K + 3) 45 x) : ∃ l : List Tm, x = [.sl (l.map Tm.c)] := by
  obtain ⟨xs, rfl, hx⟩ := sl_shape (e := 44) (by kernel_rfl) h
  obtain ⟨l, rfl⟩ := map_any (f := Tm.c) (p := Shape Tryz.prog (K + 2) 44) (fun x h => shape_tm h) xs hx
  exact ⟨l, rfl⟩
theorem shape_ac {K : Nat} {x : List D} (h : Shape Tryz.prog (K + 4) 47 x) : ∃ a : Ac, x = a.c := by
  rw [Shape.eq_2, Tryz.underlying47] at h
  simp only at h
  obtain ⟨hl, hf⟩ := h
  rw [cells_ac] at hl
  obtain ⟨a, b, c, rfl⟩ := len_3 hl
  simp only [List.mem_cons, List.not_mem_nil, or_false, forall_eq_or_imp, forall_eq, cells_str, cells_bool, cells_tms] at hf
  obtain ⟨f1, f2, f3⟩ := hf
  obtain ⟨s, e1⟩ := sh_str (K := K + 2) f1
  obtain ⟨y, e2⟩ := sh_bool (K := K + 2) f2
  obtain ⟨l, e3⟩ := sh_tms (K := K) f3
  simp at e1 e2 e3
  exact ⟨⟨s, y, l⟩, by rw [e1, e2, e3]; rfl⟩
theorem sh_acs {K : Nat} {x : List D} (h : Shape Tryz.prog (K + 5) 39 x) : ∃ l : List Ac, x = [.sl (l.map Ac.c)] := by
  obtain ⟨xs, rfl, hx⟩ := sl_shape (e := 47) (by kernel_rfl) h
  obtain ⟨l, rfl⟩ := map_any (f := Ac.c) (p := Shape Tryz.prog (K + 4) 47) (fun x h => shape_ac h) xs hx
  exact ⟨l, rfl⟩
theorem len_4 {α : Type} {l : List α} (h : l.length = 4) : ∃ a b c d, l = [a, b, c, d] := by
  match l, h with
  | [a, b, c, d], _ => exact ⟨a, b, c, d, rfl⟩
theorem cells_var : Tryz.prog.cellsOf 70 = 4 := by kernel_rfl
theorem cells_env : Tryz.prog.cellsOf 110 = 6 := by kernel_rfl
theorem cells_vars : Tryz.prog.cellsOf 23 = 1 := by kernel_rfl
theorem cells_strs : Tryz.prog.cellsOf 22 = 1 := by kernel_rfl
theorem cells_vals : Tryz.prog.cellsOf 108 = 4 := by kernel_rfl
theorem agg_env : isAggT Tryz.prog 110 = some true := by kernel_rfl
theorem agg_acs : isAggT Tryz.prog 39 = some false := by kernel_rfl
theorem agg_vals : isAggT Tryz.prog 108 = some true := by kernel_rfl
/-- Within 64 bits. -/
def Vr.Ok (v : Vr) : Prop := (-9223372036854775808 ≤ v.lo ∧ v.lo ≤ 9223372036854775807) ∧ (-9223372036854775808 ≤ v.hi ∧ v.hi ≤ 9223372036854775807)
theorem sh_int {K : Nat} {x : List D} (h : Shape Tryz.prog (K + 1) 3 x) : ∃ n, x = [.int .i64 n] ∧ -9223372036854775808 ≤ n ∧ n ≤ 9223372036854775807 := by
  simp only [Shape, Tryz.underlying3] at h
  obtain ⟨n, rfl, h⟩ := h
  exact ⟨n, rfl, i64_wf h⟩
theorem shape_var {K : Nat} {x : List D} (h : Shape Tryz.prog (K + 2) 70 x) : ∃ v : Vr, x = v.c ∧ v.Ok := by
  rw [Shape.eq_2, Tryz.underlying70] at h
  simp only at h
  obtain ⟨hl, hf⟩ := h
  rw [cells_var] at hl
  obtain ⟨a, b, c, d, rfl⟩ := len_4 hl
  simp only [List.mem_cons, List.not_mem_nil, or_false, forall_eq_or_imp, forall_eq, cells_str, cells_int] at hf
  obtain ⟨f1, f2, f3, f4⟩ := hf
  obtain ⟨s, e1⟩ := sh_str (K := K) f1
  obtain ⟨y, e2, q2⟩ := sh_int (K := K) f2
  obtain ⟨z, e3, q3⟩ := sh_int (K := K) f3
  obtain ⟨w, e4, _⟩ := sh_int (K := K) f4
  simp at e1 e2 e3 e4
  exact ⟨⟨s, y, z, w⟩, by rw [e1, e2, e3, e4]; rfl, q2, q3⟩
theorem map_any' {α : Type} {f : α → List D} {q : α → Prop} {p : List D → Prop} (h : ∀ x, p x → ∃ a, x = f a ∧ q a) : ∀ (xs : List (List D)), (∀ x ∈ xs, p x) → ∃ l : List α, xs = l.map f ∧ ∀ a ∈ l, q a
  | [], _ => ⟨[], rfl, by simp⟩
  | x :: r, hx => by
    obtain ⟨a, rfl, ha⟩ := h x (hx x (by simp))
    obtain ⟨l, rfl, hl⟩ := map_any' h r fun y hy => hx y (by simp [hy])
    exact ⟨a :: l, rfl, by simpa using ⟨ha, hl⟩⟩
theorem sh_vars {K : Nat} {x : List D} (h : Shape Tryz.prog (K + 3) 23 x) : ∃ l : List Vr, x = [.sl (l.map Vr.c)] ∧ ∀ v ∈ l, v.Ok := by
  obtain ⟨xs, rfl, hx⟩ := sl_shape (e := 70) (by kernel_rfl) h
  obtain ⟨l, rfl, hl⟩ := map_any' (f := Vr.c) (q := Vr.Ok) (p := Shape Tryz.prog (K + 2) 70) (fun x h => shape_var h) xs hx
  exact ⟨l, rfl, hl⟩
theorem sh_strs {K : Nat} {x : List D} (h : Shape Tryz.prog (K + 2) 22 x) : ∃ l : List (List UInt8), x = [.sl (l.map sD)] := by
  obtain ⟨xs, rfl, hx⟩ := sl_shape (e := 9) (by kernel_rfl) h
  obtain ⟨l, rfl⟩ := map_any (f := sD) (p := Shape Tryz.prog (K + 1) 9) (fun x h => sh_str h) xs hx
  exact ⟨l, rfl⟩
theorem sh_vals {K : Nat} {x : List D} (h : Shape Tryz.prog (K + 2) 108 x) : ∃ q : Q4, x = q.l.map (D.int .i64) := by
  rw [Shape.eq_2, Tryz.underlying108] at h
  simp only at h
  obtain ⟨hl, hf⟩ := h
  rw [cells_vals] at hl
  obtain ⟨a, b, c, d, rfl⟩ := len_4 hl
  rw [cells_int] at hf
  obtain ⟨s, e1, _⟩ := sh_int (K := K) (hf 0 (by omega))
  obtain ⟨y, e2, _⟩ := sh_int (K := K) (hf 1 (by omega))
  obtain ⟨z, e3, _⟩ := sh_int (K := K) (hf 2 (by omega))
  obtain ⟨w, e4, _⟩ := sh_int (K := K) (hf 3 (by omega))
  simp at e1 e2 e3 e4
  exact ⟨⟨s, y, z, w⟩, by rw [e1, e2, e3, e4]; rfl⟩
theorem shape_env {K : Nat} {x : List D} (h : Shape Tryz.prog (K + 4) 110 x) : ∃ e : En, x = [.sl (e.vars.map Vr.c), .int .i64 e.vals.a, .int .i64 e.vals.b, .int .i64 e.vals.c, .int .i64 e.vals.d, .sl (e.ins.map sD)] ∧ ∀ v ∈ e.vars, v.Ok := by
  rw [Shape.eq_2, Tryz.underlying110] at h
  simp only at h
  obtain ⟨hl, hf⟩ := h
  rw [cells_env] at hl
  match x, hl with
  | [a, b, c, d, e, f], _ =>
  simp only [List.mem_cons, List.not_mem_nil, or_false, forall_eq_or_imp, forall_eq, cells_vars, cells_vals, cells_strs] at hf
  obtain ⟨f1, f2, f3⟩ := hf
  obtain ⟨vs, e1, hv⟩ := sh_vars (K := K) f1
  obtain ⟨q, e2⟩ := sh_vals (K := K + 1) f2
  obtain ⟨ss, e3⟩ := sh_strs (K := K + 1) f3
  simp [Q4.l] at e1 e2 e3
  obtain ⟨g1, g2, g3, g4⟩ := e2
  exact ⟨⟨vs, q, ss⟩, by rw [e1, g1, g2, g3, g4, e3], hv⟩
theorem arg_env {c : C} (h : ArgOf Tryz.prog 9 110 c) : ∃ e : En, c = e.w ∧ ∀ v ∈ e.vars, v.Ok := by
  obtain ⟨ds, hs, h⟩ := h
  obtain ⟨e, rfl, he⟩ := shape_env (K := 5) hs
  rcases h with ⟨_, rfl⟩ | ⟨h, _⟩
  · exact ⟨e, rfl, he⟩
  · rw [agg_env] at h; cases h
theorem arg_vals {c : C} (h : ArgOf Tryz.prog 9 108 c) : ∃ q : Q4, c = q.w := by
  obtain ⟨ds, hs, h⟩ := h
  obtain ⟨q, rfl⟩ := sh_vals (K := 7) hs
  rcases h with ⟨_, rfl⟩ | ⟨h, _⟩
  · exact ⟨q, rfl⟩
  · rw [agg_vals] at h; cases h
theorem arg_acs {c : C} (h : ArgOf Tryz.prog 9 39 c) : ∃ l : List Ac, c = L (l.map Ac.c) := by
  obtain ⟨ds, hs, h⟩ := h
  obtain ⟨l, rfl⟩ := sh_acs (K := 4) hs
  rcases h with ⟨h, _⟩ | ⟨_, d, h, rfl⟩
  · rw [agg_acs] at h; cases h
  · cases h; exact ⟨l, rfl⟩
end Go.Proofs.YtckonoejmjblfaaGreatDoor.Ev
