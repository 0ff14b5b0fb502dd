/- IndexFunc and ContainsFunc, with functions that have captured one object. -/
import Derived.Test.YtckonoejmjblfaaGreatDoorPkChk
import Derived.Test.YtckonoejmjblfaaGreatDoorPkEvaA
import Derived.Test.YtckonoejmjblfaaGreatDoorPkTrmC
import Derived.Test.YtckonoejmjblfaaGreatDoorPkActA
set_option linter.unusedVariables false
set_option linter.unusedSimpArgs false
set_option maxRecDepth 100000
set_option maxHeartbeats 4000000
namespace Go.Proofs.YtckonoejmjblfaaGreatDoor.Ev
open Go Go.RowKit

/-- What a function of one captured object, which holds cs, tells of all in l. -/
def FnO {α : Type} (wC : α → C) (f : Nat) (cs : List W) (p : α → Bool) (l : List α) : Prop := Evt fun k => ∀ t ∈ l, ∀ ro gl o, (gl : List (List W))[o]? = some cs → ev k f [wC t, .w (.glo o 0)] ro gl = some (V.bool (p t), gl)
theorem FnO.intro {α : Type} {wC : α → C} {f : Nat} {fn : Func} {cs : List W} {p : α → Bool} {l : List α} (hf : Tryz.prog.funcs[f]? = some fn) (hn : (fnOk cf f fn && (xtL.lookup f).isNone) = true)
    (h : Evt fun n => ∀ t ∈ l, ∀ ro gl o, (gl : List (List W))[o]? = some cs → bodyA Tryz.prog cf f (ev n) n fn [wC t, .w (.glo o 0)] ro gl = some (V.bool (p t), gl)) : FnO wC f cs p l :=
  Evt.up (fun _ g => ∀ t ∈ l, ∀ ro gl o, (gl : List (List W))[o]? = some cs → g [wC t, .w (.glo o 0)] ro gl = some (V.bool (p t), gl)) hf hn h fun _ _ h => h
/-- The same of a call with a function that has captured o. -/
def ReadsF (f g : Nat) (x : C) (cs : List W) (r : V) : Prop := Evt fun n => ∀ ro gl o, (gl : List (List W))[o]? = some cs → ev n f [x, .w (.fn g [o])] ro gl = some (r, gl)
theorem ReadsF.intro {f g : Nat} {fn : Func} {x : C} {cs : List W} {r : V} (hf : Tryz.prog.funcs[f]? = some fn) (hn : (fnOk cf f fn && (xtL.lookup f).isNone) = true)
    (h : Evt fun n => ∀ ro gl o, (gl : List (List W))[o]? = some cs → bodyA Tryz.prog cf f (ev n) n fn [x, .w (.fn g [o])] ro gl = some (r, gl)) : ReadsF f g x cs r :=
  Evt.up (fun _ q => ∀ ro gl o, (gl : List (List W))[o]? = some cs → q [x, .w (.fn g [o])] ro gl = some (r, gl)) hf hn h fun _ _ h => h
def ixVrS (f o : Nat) (l : List (Vr)) (i : Nat) (gl : List (List W)) (ro : Nat) : St := st 19 [(0, .c (L (l.map Vr.c))), (1, .c (.w (.fn f [o]))), (7, V.int .i64 l.length), (8, V.int .i64 i)] [] [] gl ro
def ixVrR (f o : Nat) (l : List (Vr)) (i : Nat) (r : Option Nat) (gl : List (List W)) (ro : Nat) : Ex × St := match r with
  | some j => (.ret, st 19 [(4, V.int .i64 (i + j : Nat))] [] [] gl ro)
  | none => (.exit 0, ixVrS f o l l.length gl ro)
theorem ixVr_loop (f : Nat) (hf : cfRo f = true) (hfl : cfFul f = false) (cs : List W) (p : Vr → Bool) (l : List (Vr)) (hl : l.length < 1000000) (h : FnO Vr.w f cs p l) : Evt fun k => ∀ gl o ro S, gl[o]? = some cs → S.hav [0, 1, 7, 8] = ixVrS f o l 0 gl ro →
    loopA (evC Tryz.prog cf 101 (ev k) k (bodyOf Tryz.f101 0)) [0, 1, 7, 8] [4] k S = some (ixVrR f o l 0 (l.findIdx? p) gl ro) := by
  refine (h.and (Evt.ge (l.length + 1))).imp fun k ⟨h, hk⟩ gl o ro S ho hS => ?_
  refine loop_by (keep := [0, 1, 7, 8]) (res := [4]) (fun i : Nat => ixVrS f o l i gl ro) (fun i => i ≤ l.length) (fun i => l.length - i) (fun i => ixVrR f o l i ((l.drop i).findIdx? p) gl ro) ?_ k 0 S (Nat.zero_le _) (by omega) hS
  intro i hi
  by_cases hi' : i = l.length
  · subst hi'
    refine .inr (.inl ⟨0, ixVrS f o l l.length gl ro, ?_, ?_⟩)
    · simp -implicitDefEqProofs [ixVrS, bodyOf, loopsOf, hv, Tryz.f101]
    · rw [List.drop_of_length_le (Nat.le_refl _)]; rfl
  · have h1 : i < l.length := by omega
    have h1' : (i : Int) < l.length := by omega
    have da : l.drop i = l[i] :: l.drop (i + 1) := List.drop_eq_getElem_cons h1
    have ca : l[i]? = some l[i] := List.getElem?_eq_getElem h1
    have hm := fun ro => h l[i] (List.getElem_mem h1) ro gl o ho
    generalize l[i] = x at da ca hm
    have w : IntKind.i64.wrap ((i : Int) + 1) = (i : Int) + 1 := i64w _ (by omega)
    have hx : l[i] = x := (List.getElem?_eq_some_iff.1 ca).2
    try simp [Vr.c, Vr.w] at hm
    by_cases hp : p x = true
    · refine .inr (.inr ⟨st 19 [(4, V.int .i64 i)] [] [] gl ro, ?_, ?_⟩)
      · simp -implicitDefEqProofs [ixVrS, bodyOf, loopsOf, hv, Tryz.f101, h1, h1', hx, Vr.c, Vr.w, w, hm, hp, hf, hfl]
      · rw [da, List.findIdx?_cons, if_pos hp]; rfl
    · refine .inl ⟨i + 1, by omega, by omega, ?_, ?_⟩
      · have hp : p x = false := by simpa using hp
        simp -implicitDefEqProofs [ixVrS, bodyOf, loopsOf, hv, Tryz.f101, h1, h1', hx, Vr.c, Vr.w, w, hm, hp, hf, hfl]
      · rw [da, List.findIdx?_cons, if_neg hp]
        cases (l.drop (i + 1)).findIdx? p with
        | none => rfl
        | some j => simp only [Option.map_some, ixVrR]; rw [show i + 1 + j = i + (j + 1) by omega]
theorem IndexVr_ev (f : Nat) (hf : cfRo f = true) (hfl : cfFul f = false) (cs : List W) (p : Vr → Bool) (l : List (Vr)) (hl : l.length < 1000000) (h : FnO Vr.w f cs p l) : ReadsF 101 f (L (l.map Vr.c)) cs (V.int .i64 (ixV (l.findIdx? p))) := by
  refine .intro Tryz.func101 (by kernel_rfl) ((ixVr_loop f hf hfl cs p l hl h).imp fun k h2 ro gl o ho => ?_)
  have tail : ∀ S : St, S.hav [0, 1, 7, 8] = ixVrS f o l 0 gl gl.length → loopC Tryz.prog cf 101 (ev k) k (bodyOf Tryz.f101 0) S = _ := fun S hS => h2 gl o gl.length S ho hS
  simp -implicitDefEqProofs [Tryz.f101]
  refine bind_go (tail _ ?_) ?_
  · simp [ixVrS]
  · cases l.findIdx? p with
    | none => simp [ixVrR, ixVrS, ixV]
    | some j => simp [ixVrR, ixVrS, ixV]
theorem ContainsVr_ev (f : Nat) (hf : cfRo f = true) (hfl : cfFul f = false) (cs : List W) (p : Vr → Bool) (l : List (Vr)) (hl : l.length < 1000000) (h : FnO Vr.w f cs p l) : ReadsF 50 f (L (l.map Vr.c)) cs (V.bool (l.any p)) := by
  refine .intro Tryz.func50 (by kernel_rfl) ((IndexVr_ev f hf hfl cs p l hl h).imp fun k h2 ro gl o ho => ?_)
  have e : l.any p = decide (0 ≤ ixV (l.findIdx? p)) := by
    rw [← List.findIdx?_isSome]
    cases l.findIdx? p with
    | none => rfl
    | some j => simp [ixV]
  have h3 := fun ro => h2 ro gl o ho
  rw [e]
  simp -implicitDefEqProofs [Tryz.f50, h3]
def ixStS (f o : Nat) (l : List (List UInt8)) (i : Nat) (gl : List (List W)) (ro : Nat) : St := st 19 [(0, .c (L (l.map sD))), (1, .c (.w (.fn f [o]))), (7, V.int .i64 l.length), (8, V.int .i64 i)] [] [] gl ro
def ixStR (f o : Nat) (l : List (List UInt8)) (i : Nat) (r : Option Nat) (gl : List (List W)) (ro : Nat) : Ex × St := match r with
  | some j => (.ret, st 19 [(4, V.int .i64 (i + j : Nat))] [] [] gl ro)
  | none => (.exit 0, ixStS f o l l.length gl ro)
theorem ixSt_loop (f : Nat) (hf : cfRo f = true) (hfl : cfFul f = false) (cs : List W) (p : List UInt8 → Bool) (l : List (List UInt8)) (hl : l.length < 1000000) (h : FnO T f cs p l) : Evt fun k => ∀ gl o ro S, gl[o]? = some cs → S.hav [0, 1, 7, 8] = ixStS f o l 0 gl ro →
    loopA (evC Tryz.prog cf 100 (ev k) k (bodyOf Tryz.f100 0)) [0, 1, 7, 8] [4] k S = some (ixStR f o l 0 (l.findIdx? p) gl ro) := by
  refine (h.and (Evt.ge (l.length + 1))).imp fun k ⟨h, hk⟩ gl o ro S ho hS => ?_
  refine loop_by (keep := [0, 1, 7, 8]) (res := [4]) (fun i : Nat => ixStS f o l i gl ro) (fun i => i ≤ l.length) (fun i => l.length - i) (fun i => ixStR f o l i ((l.drop i).findIdx? p) gl ro) ?_ k 0 S (Nat.zero_le _) (by omega) hS
  intro i hi
  by_cases hi' : i = l.length
  · subst hi'
    refine .inr (.inl ⟨0, ixStS f o l l.length gl ro, ?_, ?_⟩)
    · simp -implicitDefEqProofs [ixStS, bodyOf, loopsOf, hv, Tryz.f100]
    · rw [List.drop_of_length_le (Nat.le_refl _)]; rfl
  · have h1 : i < l.length := by omega
    have h1' : (i : Int) < l.length := by omega
    have da : l.drop i = l[i] :: l.drop (i + 1) := List.drop_eq_getElem_cons h1
    have ca : l[i]? = some l[i] := List.getElem?_eq_getElem h1
    have hm := fun ro => h l[i] (List.getElem_mem h1) ro gl o ho
    generalize l[i] = x at da ca hm
    have w : IntKind.i64.wrap ((i : Int) + 1) = (i : Int) + 1 := i64w _ (by omega)
    have hx : l[i] = x := (List.getElem?_eq_some_iff.1 ca).2
    try simp [sD] at hm
    by_cases hp : p x = true
    · refine .inr (.inr ⟨st 19 [(4, V.int .i64 i)] [] [] gl ro, ?_, ?_⟩)
      · simp -implicitDefEqProofs [ixStS, bodyOf, loopsOf, hv, Tryz.f100, h1, h1', hx, sD, w, hm, hp, hf, hfl]
      · rw [da, List.findIdx?_cons, if_pos hp]; rfl
    · refine .inl ⟨i + 1, by omega, by omega, ?_, ?_⟩
      · have hp : p x = false := by simpa using hp
        simp -implicitDefEqProofs [ixStS, bodyOf, loopsOf, hv, Tryz.f100, h1, h1', hx, sD, w, hm, hp, hf, hfl]
      · rw [da, List.findIdx?_cons, if_neg hp]
        cases (l.drop (i + 1)).findIdx? p with
        | none => rfl
        | some j => simp only [Option.map_some, ixStR]; rw [show i + 1 + j = i + (j + 1) by omega]
theorem IndexSt_ev (f : Nat) (hf : cfRo f = true) (hfl : cfFul f = false) (cs : List W) (p : List UInt8 → Bool) (l : List (List UInt8)) (hl : l.length < 1000000) (h : FnO T f cs p l) : ReadsF 100 f (L (l.map sD)) cs (V.int .i64 (ixV (l.findIdx? p))) := by
  refine .intro Tryz.func100 (by kernel_rfl) ((ixSt_loop f hf hfl cs p l hl h).imp fun k h2 ro gl o ho => ?_)
  have tail : ∀ S : St, S.hav [0, 1, 7, 8] = ixStS f o l 0 gl gl.length → loopC Tryz.prog cf 100 (ev k) k (bodyOf Tryz.f100 0) S = _ := fun S hS => h2 gl o gl.length S ho hS
  simp -implicitDefEqProofs [Tryz.f100]
  refine bind_go (tail _ ?_) ?_
  · simp [ixStS]
  · cases l.findIdx? p with
    | none => simp [ixStR, ixStS, ixV]
    | some j => simp [ixStR, ixStS, ixV]
theorem ContainsSt_ev (f : Nat) (hf : cfRo f = true) (hfl : cfFul f = false) (cs : List W) (p : List UInt8 → Bool) (l : List (List UInt8)) (hl : l.length < 1000000) (h : FnO T f cs p l) : ReadsF 48 f (L (l.map sD)) cs (V.bool (l.any p)) := by
  refine .intro Tryz.func48 (by kernel_rfl) ((IndexSt_ev f hf hfl cs p l hl h).imp fun k h2 ro gl o ho => ?_)
  have e : l.any p = decide (0 ≤ ixV (l.findIdx? p)) := by
    rw [← List.findIdx?_isSome]
    cases l.findIdx? p with
    | none => rfl
    | some j => simp [ixV]
  have h3 := fun ro => h2 ro gl o ho
  rw [e]
  simp -implicitDefEqProofs [Tryz.f48, h3]
def ixInS (f o : Nat) (l : List (Int)) (i : Nat) (gl : List (List W)) (ro : Nat) : St := st 19 [(0, .c (L (l.map zD))), (1, .c (.w (.fn f [o]))), (7, V.int .i64 l.length), (8, V.int .i64 i)] [] [] gl ro
def ixInR (f o : Nat) (l : List (Int)) (i : Nat) (r : Option Nat) (gl : List (List W)) (ro : Nat) : Ex × St := match r with
  | some j => (.ret, st 19 [(4, V.int .i64 (i + j : Nat))] [] [] gl ro)
  | none => (.exit 0, ixInS f o l l.length gl ro)
theorem ixIn_loop (f : Nat) (hf : cfRo f = true) (hfl : cfFul f = false) (cs : List W) (p : Int → Bool) (l : List (Int)) (hl : l.length < 1000000) (h : FnO I f cs p l) : Evt fun k => ∀ gl o ro S, gl[o]? = some cs → S.hav [0, 1, 7, 8] = ixInS f o l 0 gl ro →
    loopA (evC Tryz.prog cf 262 (ev k) k (bodyOf Tryz.f262 0)) [0, 1, 7, 8] [4] k S = some (ixInR f o l 0 (l.findIdx? p) gl ro) := by
  refine (h.and (Evt.ge (l.length + 1))).imp fun k ⟨h, hk⟩ gl o ro S ho hS => ?_
  refine loop_by (keep := [0, 1, 7, 8]) (res := [4]) (fun i : Nat => ixInS f o l i gl ro) (fun i => i ≤ l.length) (fun i => l.length - i) (fun i => ixInR f o l i ((l.drop i).findIdx? p) gl ro) ?_ k 0 S (Nat.zero_le _) (by omega) hS
  intro i hi
  by_cases hi' : i = l.length
  · subst hi'
    refine .inr (.inl ⟨0, ixInS f o l l.length gl ro, ?_, ?_⟩)
    · simp -implicitDefEqProofs [ixInS, bodyOf, loopsOf, hv, Tryz.f262]
    · rw [List.drop_of_length_le (Nat.le_refl _)]; rfl
  · have h1 : i < l.length := by omega
    have h1' : (i : Int) < l.length := by omega
    have da : l.drop i = l[i] :: l.drop (i + 1) := List.drop_eq_getElem_cons h1
    have ca : l[i]? = some l[i] := List.getElem?_eq_getElem h1
    have hm := fun ro => h l[i] (List.getElem_mem h1) ro gl o ho
    generalize l[i] = x at da ca hm
    have w : IntKind.i64.wrap ((i : Int) + 1) = (i : Int) + 1 := i64w _ (by omega)
    have hx : l[i] = x := (List.getElem?_eq_some_iff.1 ca).2
    try simp [zD] at hm
    by_cases hp : p x = true
    · refine .inr (.inr ⟨st 19 [(4, V.int .i64 i)] [] [] gl ro, ?_, ?_⟩)
      · simp -implicitDefEqProofs [ixInS, bodyOf, loopsOf, hv, Tryz.f262, h1, h1', hx, zD, w, hm, hp, hf, hfl]
      · rw [da, List.findIdx?_cons, if_pos hp]; rfl
    · refine .inl ⟨i + 1, by omega, by omega, ?_, ?_⟩
      · have hp : p x = false := by simpa using hp
        simp -implicitDefEqProofs [ixInS, bodyOf, loopsOf, hv, Tryz.f262, h1, h1', hx, zD, w, hm, hp, hf, hfl]
      · rw [da, List.findIdx?_cons, if_neg hp]
        cases (l.drop (i + 1)).findIdx? p with
        | none => rfl
        | some j => simp only [Option.map_some, ixInR]; rw [show i + 1 + j = i + (j + 1) by omega]
theorem IndexIn_ev (f : Nat) (hf : cfRo f = true) (hfl : cfFul f = false) (cs : List W) (p : Int → Bool) (l : List (Int)) (hl : l.length < 1000000) (h : FnO I f cs p l) : ReadsF 262 f (L (l.map zD)) cs (V.int .i64 (ixV (l.findIdx? p))) := by
  refine .intro Tryz.func262 (by kernel_rfl) ((ixIn_loop f hf hfl cs p l hl h).imp fun k h2 ro gl o ho => ?_)
  have tail : ∀ S : St, S.hav [0, 1, 7, 8] = ixInS f o l 0 gl gl.length → loopC Tryz.prog cf 262 (ev k) k (bodyOf Tryz.f262 0) S = _ := fun S hS => h2 gl o gl.length S ho hS
  simp -implicitDefEqProofs [Tryz.f262]
  refine bind_go (tail _ ?_) ?_
  · simp [ixInS]
  · cases l.findIdx? p with
    | none => simp [ixInR, ixInS, ixV]
    | some j => simp [ixInR, ixInS, ixV]
theorem ContainsIn_ev (f : Nat) (hf : cfRo f = true) (hfl : cfFul f = false) (cs : List W) (p : Int → Bool) (l : List (Int)) (hl : l.length < 1000000) (h : FnO I f cs p l) : ReadsF 215 f (L (l.map zD)) cs (V.bool (l.any p)) := by
  refine .intro Tryz.func215 (by kernel_rfl) ((IndexIn_ev f hf hfl cs p l hl h).imp fun k h2 ro gl o ho => ?_)
  have e : l.any p = decide (0 ≤ ixV (l.findIdx? p)) := by
    rw [← List.findIdx?_isSome]
    cases l.findIdx? p with
    | none => rfl
    | some j => simp [ixV]
  have h3 := fun ro => h2 ro gl o ho
  rw [e]
  simp -implicitDefEqProofs [Tryz.f215, h3]
end Go.Proofs.YtckonoejmjblfaaGreatDoor.Ev

/- Places of variables and of events; what a leaf comes to. -/
set_option linter.unusedVariables false
set_option linter.unusedSimpArgs false
set_option maxRecDepth 100000
set_option maxHeartbeats 4000000
namespace Go.Proofs.YtckonoejmjblfaaGreatDoor.Ev
open Go Go.RowKit

def sxS (l : List (List UInt8)) (s : List UInt8) (i : Nat) (gl : List (List W)) (ro : Nat) : St := st 19 [(0, .c (L (l.map sD))), (1, .c (T s)), (7, V.int .i64 l.length), (8, .c (I i))] [] [] gl ro
theorem sx_loop (call : Caller) (N : Nat) (gl : List (List W)) (ro : Nat) (l : List (List UInt8)) (s : List UInt8) (hl : l.length < 4611686018427387904) (n : Nat) (hn : l.length < n) (S : St) (hS : S.hav [0, 1, 7, 8] = sxS l s 0 gl ro) :
    loopA (evC Tryz.prog cf 291 call N (bodyOf Tryz.f291 0)) [0, 1, 7, 8] [4] n S = some (if s ∈ l then (.ret, st 19 [(4, .c (I (place l s 0)))] [] [] gl ro) else (.exit 0, sxS l s l.length gl ro)) := by
  refine loop_by (fun a : List (List UInt8) × List (List UInt8) => sxS l s a.1.length gl ro) (fun a => l = a.1 ++ a.2) (fun a => a.2.length) (fun a => if s ∈ a.2 then (.ret, st 19 [(4, .c (I (place a.2 s a.1.length)))] [] [] gl ro) else (.exit 0, sxS l s l.length gl ro)) ?_ n ([], l) S rfl hn hS
  rintro ⟨p, r⟩ hs
  simp only at hs
  cases r with
  | nil =>
    obtain rfl : l = p := by simpa using hs
    refine .inr (.inl ⟨0, sxS l s l.length gl ro, ?_, by simp⟩)
    simp -implicitDefEqProofs [sxS, bodyOf, loopsOf, hv, Tryz.f291]
  | cons c r =>
    have hlt : (p.length : Int) < p.length + (r.length + 1) := by omega
    have hp : p.length < 4611686018427387904 := by rw [hs] at hl; simp at hl; omega
    have w : IntKind.i64.wrap ((p.length : Int) + 1) = (p.length : Int) + 1 := i64w _ (by omega)
    by_cases h : c = s
    · refine .inr (.inr ⟨st 19 [(4, .c (I p.length))] [] [] gl ro, ?_, by simp [h, place]⟩)
      subst hs
      simp -implicitDefEqProofs [sxS, bodyOf, loopsOf, hv, Tryz.f291, hlt, h]
    · have h' : ¬ s = c := fun e => h e.symm
      refine .inl ⟨(p ++ [c], r), by simp [hs], by simp, ?_, ?_⟩
      · subst hs
        simp -implicitDefEqProofs [sxS, bodyOf, loopsOf, hv, Tryz.f291, hlt, h, h', w]
      · simp [place, h, Ne.symm h]
theorem Index_ev (l : List (List UInt8)) (s : List UInt8) (hl : l.length < 4611686018427387904) : Gives 291 [L (l.map sD), T s] (.c (I (place l s 0))) := by
  refine .intro Tryz.func291 (by kernel_rfl) (Evt.ge (l.length + 1) |>.imp fun k hk ro gl => ?_)
  have tail : ∀ S : St, S.hav [0, 1, 7, 8] = sxS l s 0 gl gl.length → loopC Tryz.prog cf 291 (ev k) k (bodyOf Tryz.f291 0) S = _ := fun S hS => sx_loop (ev k) k gl gl.length l s hl k (by omega) S hS
  simp -implicitDefEqProofs [Tryz.f291]
  refine bind_go (tail _ ?_) ?_
  · simp [sxS]
  · by_cases h : s ∈ l
    · simp [h]
    · have e : ∀ (l : List (List UInt8)) (i : Nat), ¬ s ∈ l → place l s i = -1 := by
        intro l
        induction l with
        | nil => intro i _; rfl
        | cons x r ih =>
          intro i h
          simp only [List.mem_cons, not_or] at h
          rw [place, if_neg (Ne.symm h.1), ih _ h.2]
      simp [h, sxS, e l 0 h]
theorem nPlace_ev (l : List (List UInt8)) (s : List UInt8) (hl : l.length < 4611686018427387904) : Gives 273 [L (l.map sD), T s] (.c (I (place l s 0))) := by
  refine .intro Tryz.func273 (by kernel_rfl) ((Index_ev l s hl).imp fun k h ro gl => ?_)
  simp -implicitDefEqProofs [Tryz.f273, h]
theorem place1_ev (s : List UInt8) (vs : List Vr) : FnO Vr.w 267 [.d (.str s)] (fun v => decide (v.name = s)) vs := by
  refine .intro Tryz.func267 (by kernel_rfl) (Evt.of fun k v _ ro gl o ho => ?_)
  simp -implicitDefEqProofs [Tryz.f267, Vr.w, Vr.c, ho]
theorem place_ev (en : En) (s : List UInt8) (hl : en.vars.length < 1000000) : Gives 229 [en.w, T s] (V.int .i64 (placeV en.vars s)) := by
  have h := IndexVr_ev 267 (by kernel_rfl) (by kernel_rfl) [.d (.str s)] (fun v => decide (v.name = s)) en.vars hl (place1_ev s en.vars)
  refine .intro Tryz.func229 (by kernel_rfl) (h.imp fun k h ro gl => ?_)
  have h1 := fun ro => h ro (gl ++ [[.d (.str s)]]) gl.length (get_last _ _)
  unfold placeV
  simp -implicitDefEqProofs [Tryz.f229, En.w, En.ws, h1]
theorem q4_cases {P : Int → Prop} {i : Int} (h : 0 ≤ i ∧ i < 4) (h0 : i = 0 → P 0) (h1 : i = 1 → P 1) (h2 : i = 2 → P 2) (h3 : i = 3 → P 3) : P i := by
  have : i = 0 ∨ i = 1 ∨ i = 2 ∨ i = 3 := by omega
  rcases this with rfl | rfl | rfl | rfl
  · exact h0 rfl
  · exact h1 rfl
  · exact h2 rfl
  · exact h3 rfl
/-- What a leaf comes to; a variable is there. -/
theorem leaf_ev (en : En) (t : Tm) (hv : en.vars.length ≤ 4) (hi : en.ins.length < 1000000) (ht : t.op = 2 → 0 ≤ placeV en.vars t.name) : Gives 237 [t.w, en.w] (V.int .i64 (leafI en t)) := by
  have h1 := place_ev en t.name (by omega)
  have h2 := nPlace_ev en.ins t.name (by omega)
  have h3 := bit_ev (decide (0 ≤ place en.ins t.name 0))
  have h4 := bit_ev (decide (t.op = 9))
  have h5 := Near_ev (en.vals.get (placeV en.vars t.name))
  refine .intro Tryz.func237 (by kernel_rfl) ((h1.and (h2.and (h3.and (h4.and h5)))).imp fun k ⟨h1, h2, h3, h4, h5⟩ ro gl => ?_)
  obtain ⟨op, n, nm⟩ := t
  unfold leafI
  simp only at ht h1 h2 h3 h4 h5 ⊢
  by_cases c1 : op = 1
  · simp -implicitDefEqProofs [Tryz.f237, Tm.w, En.w, En.ws, c1]
  by_cases c2 : op = 2
  · have hp := ht c2
    have hp2 := (placeV_lt4 hp).2
    have hr : 0 ≤ placeV en.vars nm ∧ placeV en.vars nm < 4 := ⟨hp, by omega⟩
    simp [En.w, En.ws] at h1
    generalize placeV en.vars nm = i at hr h1 h5
    have hi : i = 0 ∨ i = 1 ∨ i = 2 ∨ i = 3 := by omega
    rcases hi with rfl | rfl | rfl | rfl
    · simp [Q4.get] at h5
      simp -implicitDefEqProofs [Tryz.f237, Tm.w, En.w, En.ws, c2, h1, h5, Q4.get]
    · simp [Q4.get] at h5
      simp -implicitDefEqProofs [Tryz.f237, Tm.w, En.w, En.ws, c2, h1, h5, Q4.get]
    · simp [Q4.get] at h5
      simp -implicitDefEqProofs [Tryz.f237, Tm.w, En.w, En.ws, c2, h1, h5, Q4.get]
    · simp [Q4.get] at h5
      simp -implicitDefEqProofs [Tryz.f237, Tm.w, En.w, En.ws, c2, h1, h5, Q4.get]
  by_cases c11 : op = 11
  · generalize place en.ins nm 0 = i at h2 h3 ⊢
    simp -implicitDefEqProofs [Tryz.f237, Tm.w, En.w, En.ws, c11, h2, h3]
  · simp -implicitDefEqProofs [Tryz.f237, Tm.w, En.w, En.ws, c1, c2, c11, h4]
/-! The document's. -/
def rvpS (en : En) (s : List UInt8) (i : Nat) (gl : List (List W)) (ro : Nat) : St := st 22 [(1, .c (T s)), (2, .c (.w (.box 2 0))), (5, .c (I i))] [(2, en.ws)] [] gl ro
end Go.Proofs.YtckonoejmjblfaaGreatDoor.Ev

/- Layer 5: types, the program's and the document's. -/
set_option linter.unusedVariables false
set_option linter.unusedSimpArgs false
set_option maxRecDepth 100000
set_option maxHeartbeats 4000000
namespace Go.Proofs.YtckonoejmjblfaaGreatDoor.Ev
open Go Go.RowKit

/-- Whether a number is another one. -/
def A1 (k : Nat) : Prop := ∀ (one x : Int) ro gl o, (gl : List (List W))[o]? = some [.d (.int .i64 one)] → ev k 290 [I x, .w (.glo o 0)] ro gl = some (V.bool (x != one), gl)
theorem all1_ev : Evt A1 := by
  refine Evt.up (fun _ q => ∀ (one x : Int) ro gl o, (gl : List (List W))[o]? = some [.d (.int .i64 one)] → q [I x, .w (.glo o 0)] ro gl = some (V.bool (x != one), gl)) Tryz.func290 (by kernel_rfl) (Evt.of fun k one v ro gl o ho => ?_) fun _ _ h => h
  simp -implicitDefEqProofs [Tryz.f290, ho]
/-- IndexFunc over numbers that lie among what calls share. -/
def igS (o : Nat) (x : W) (n : Nat) (i : Nat) (gl : List (List W)) (ro : Nat) : St := st 19 [(0, .c (.w x)), (1, .c (.w (.fn 290 [o]))), (7, V.int .i64 n), (8, V.int .i64 i)] [] [] gl ro
def Sht (gl : List (List W)) (l : List Int) (x : W) : Prop := (l = [] ∧ x = .d (.sl [])) ∨ (∃ o2, (l.length = 1 ∨ l.length = 2) ∧ x = .gsl o2 0 l.length l.length 1 ∧ gl[o2]? = some (cI l))
theorem IndexG_ev : Evt fun k => ∀ (l : List Int) (one : Int) ro gl o x, (gl : List (List W))[o]? = some [.d (.int .i64 one)] → Sht gl l x → ev k 262 [.w x, .w (.fn 290 [o])] ro gl = some (V.int .i64 (ixV (l.findIdx? fun x => x != one)), gl) := by
  refine Evt.up (fun _ q => ∀ (l : List Int) (one : Int) ro gl o x, (gl : List (List W))[o]? = some [.d (.int .i64 one)] → Sht gl l x → q [.w x, .w (.fn 290 [o])] ro gl = some (V.int .i64 (ixV (l.findIdx? fun x => x != one)), gl)) Tryz.func262 (by kernel_rfl) ((all1_ev.and (Evt.ge 5)).imp fun k ⟨h, hk⟩ l one ro gl o x ho hx => ?_) fun _ _ h => h
  obtain ⟨k, rfl⟩ : ∃ m, k = m + 5 := ⟨k - 5, by omega⟩
  rcases hx with ⟨rfl, rfl⟩ | ⟨o2, hl, rfl, ho2⟩
  · have tail : ∀ S : St, S.hav [0, 1, 7, 8] = igS o (.d (.sl [])) 0 0 gl gl.length → loopC Tryz.prog cf 262 (ev (k + 5)) (k + 5) (bodyOf Tryz.f262 0) S = some (.exit 0, igS o (.d (.sl [])) 0 0 gl gl.length) := fun S hS => by
      show loopA _ [0, 1, 7, 8] [4] (k + 5) S = _
      rw [loop_unroll, hS]
      simp -implicitDefEqProofs [igS, bodyOf, loopsOf, exitHav, loop_unroll, Tryz.f262]
    clear ho h
    simp -implicitDefEqProofs [Tryz.f262]
    refine bind_go (tail _ ?_) ?_
    · simp [igS]
    · simp [igS, ixV]
  match l, hl with
  | [a], _ =>
    have ha := fun ro => h one a ro gl o ho
    have tail : ∀ S : St, S.hav [0, 1, 7, 8] = igS o (.gsl o2 0 1 1 1) 1 0 gl gl.length → loopC Tryz.prog cf 262 (ev (k + 5)) (k + 5) (bodyOf Tryz.f262 0) S = some (if (a != one) = true then (.ret, st 19 [(4, V.int .i64 0)] [] [] gl gl.length) else (.exit 0, igS o (.gsl o2 0 1 1 1) 1 1 gl gl.length)) := fun S hS => by
      show loopA _ [0, 1, 7, 8] [4] (k + 5) S = _
      rw [loop_unroll, hS]
      cases hp : (a != one) with
      | true =>
        rw [hp] at ha
        simp -implicitDefEqProofs [igS, bodyOf, loopsOf, exitHav, loop_unroll, Tryz.f262, ho2, cI, ha]
      | false =>
        rw [hp] at ha
        simp -implicitDefEqProofs [igS, bodyOf, loopsOf, exitHav, loop_unroll, Tryz.f262, ho2, cI, ha]
    clear ho2 ha h ho
    simp -implicitDefEqProofs [Tryz.f262]
    refine bind_go (tail _ ?_) ?_
    · simp [igS]
    · by_cases hp : a = one <;> simp [igS, ixV, hp, List.findIdx?_cons]
  | [a, b], _ =>
    have ha := fun ro => h one a ro gl o ho
    have hb := fun ro => h one b ro gl o ho
    have tail : ∀ S : St, S.hav [0, 1, 7, 8] = igS o (.gsl o2 0 2 2 1) 2 0 gl gl.length → loopC Tryz.prog cf 262 (ev (k + 5)) (k + 5) (bodyOf Tryz.f262 0) S = some (if (a != one) = true then (.ret, st 19 [(4, V.int .i64 0)] [] [] gl gl.length) else if (b != one) = true then (.ret, st 19 [(4, V.int .i64 1)] [] [] gl gl.length) else (.exit 0, igS o (.gsl o2 0 2 2 1) 2 2 gl gl.length)) := fun S hS => by
      show loopA _ [0, 1, 7, 8] [4] (k + 5) S = _
      rw [loop_unroll, hS]
      cases hp : (a != one) with
      | true =>
        rw [hp] at ha
        simp -implicitDefEqProofs [igS, bodyOf, loopsOf, exitHav, loop_unroll, Tryz.f262, ho2, cI, ha]
      | false =>
        rw [hp] at ha
        cases hq : (b != one) with
        | true =>
          rw [hq] at hb
          simp -implicitDefEqProofs [igS, bodyOf, loopsOf, exitHav, loop_unroll, Tryz.f262, ho2, cI, ha, hb]
        | false =>
          rw [hq] at hb
          simp -implicitDefEqProofs [igS, bodyOf, loopsOf, exitHav, loop_unroll, Tryz.f262, ho2, cI, ha, hb]
    clear ho2 ha hb h ho
    simp -implicitDefEqProofs [Tryz.f262]
    refine bind_go (tail _ ?_) ?_
    · simp [igS]
    · by_cases hp : a = one <;> by_cases hq : b = one <;> simp [igS, ixV, hp, hq, List.findIdx?_cons]
theorem ContainsG_ev : Evt fun k => ∀ (l : List Int) (one : Int) ro gl o x, (gl : List (List W))[o]? = some [.d (.int .i64 one)] → Sht gl l x → ev k 215 [.w x, .w (.fn 290 [o])] ro gl = some (V.bool (l.any fun x => x != one), gl) := by
  refine Evt.up (fun _ q => ∀ (l : List Int) (one : Int) ro gl o x, (gl : List (List W))[o]? = some [.d (.int .i64 one)] → Sht gl l x → q [.w x, .w (.fn 290 [o])] ro gl = some (V.bool (l.any fun x => x != one), gl)) Tryz.func215 (by kernel_rfl) (IndexG_ev.imp fun k h2 l one ro gl o x ho hx => ?_) fun _ _ h => h
  have e : (l.any fun x => x != one) = decide (0 ≤ ixV (l.findIdx? fun x => x != one)) := by
    rw [← List.findIdx?_isSome]
    cases l.findIdx? fun x => x != one with
    | none => rfl
    | some j => simp [ixV]
  have h3 := fun ro => h2 l one ro gl o x ho hx
  rw [e]
  generalize ixV (l.findIdx? fun x => x != one) = z at h3
  rcases hx with ⟨rfl, rfl⟩ | ⟨o2, hl, rfl, ho2⟩
  · simp -implicitDefEqProofs [Tryz.f215, h3]
  · simp -implicitDefEqProofs [Tryz.f215, h3]
theorem any_ne (l : List Int) (one : Int) : (l.any fun x => x != one) = !(l.all fun x => decide (x = one)) := by
  induction l with
  | nil => rfl
  | cons a r ih =>
    rw [List.any_cons, List.all_cons, ih, Bool.not_and]
    by_cases h : a = one <;> simp [h]
/-- Whether all are one. -/
theorem all_ev : Evt fun k => ∀ (l : List Int) (one : Int) ro (gl : List (List W)) x, Sht gl l x → ev k 269 [.w x, I one] ro gl = some (V.bool (l.all fun z => decide (z = one)), gl) := by
  refine Evt.up (fun _ q => ∀ (l : List Int) (one : Int) ro (gl : List (List W)) x, Sht gl l x → q [.w x, I one] ro gl = some (V.bool (l.all fun z => decide (z = one)), gl)) Tryz.func269 (by kernel_rfl) (ContainsG_ev.imp fun k h l one ro gl x hx => ?_) fun _ _ h => h
  have hx' : Sht (gl ++ [[.d (.int .i64 one)]]) l x := by
    rcases hx with ⟨h1, h2⟩ | ⟨o2, h1, h2, h3⟩
    · exact .inl ⟨h1, h2⟩
    · exact .inr ⟨o2, h1, h2, by rw [List.getElem?_append_left (List.getElem?_eq_some_iff.1 h3).1, h3]⟩
  have h1 := fun ro => h l one ro (gl ++ [[.d (.int .i64 one)]]) gl.length x (get_last _ _) hx'
  rw [any_ne] at h1
  generalize (l.all fun z => decide (z = one)) = b at h1 ⊢
  rcases hx with ⟨rfl, rfl⟩ | ⟨o2, hl, rfl, ho2⟩
  · cases b <;> simp -implicitDefEqProofs [Tryz.f269, h1]
  · cases b <;> simp -implicitDefEqProofs [Tryz.f269, h1]
theorem bel_sht {gl : List (List W)} {ro : Nat} {l : List Int} {x : W} (hl : l.length ≤ 2) (h : Bel gl ro l x) : ∃ y, W.expo x = some y ∧ Sht gl l y := by
  rcases h with ⟨rfl, rfl⟩ | ⟨hne, o, rfl, ho, _⟩
  · exact ⟨_, rfl, .inl ⟨rfl, rfl⟩⟩
  · have : l.length ≠ 0 := by simpa using hne
    exact ⟨_, rfl, .inr ⟨o, by omega, rfl, ho⟩⟩
theorem typed_ev : FnM 231 tyM := by
  refine Evt.up (fun _ g => ∀ (op : Int) (below : List Int) ro (gl : List (List W)) x, below.length ≤ 2 → Bel gl ro below x → ∃ gl', g [I op, .w x] ro gl = some (V.int .i64 (tyM op below), gl') ∧ Stays x gl gl') Tryz.func231 (by kernel_rfl) (all_ev.imp fun k h op below ro gl x hb hx => ?_) fun _ _ h => h
  obtain ⟨y, hy, hs⟩ := bel_sht hb hx
  have h1 := fun one ro => h below one ro gl y hs
  refine ⟨gl, ?_, Nat.le_refl _, fun _ _ _ => rfl⟩
  unfold tyM
  have key : ∀ b : Bool, (below.all fun z => decide (z = tyT op)) = b → (∀ ro, ev k 269 [.w y, I (tyT op)] ro gl = some (V.bool b, gl)) := fun b hb' ro => by rw [h1, hb']
  have hk := key _ rfl
  generalize (below.all fun z => decide (z = tyT op)) = b at hk ⊢
  clear key h1 h
  unfold tyT at hk
  unfold tyG
  rcases hx with ⟨rfl, rfl⟩ | ⟨hne, o, rfl, ho, _⟩
  · cases hy
    by_cases c1 : op ≤ 8
    · rw [if_pos c1] at hk
      cases b <;> simp -implicitDefEqProofs [Tryz.f231, hk, c1]
    · rw [if_neg c1] at hk
      by_cases c2 : op ≤ 12
      · rw [if_pos (.inl c2)] at hk
        cases b <;> simp -implicitDefEqProofs [Tryz.f231, hk, c1, c2]
      · by_cases c3 : 19 ≤ op
        · rw [if_pos (.inr c3)] at hk
          cases b <;> simp -implicitDefEqProofs [Tryz.f231, hk, c1, c2, c3]
        · rw [if_neg (by omega)] at hk
          cases b <;> simp -implicitDefEqProofs [Tryz.f231, hk, c1, c2, c3]
  · cases hy
    by_cases c1 : op ≤ 8
    · rw [if_pos c1] at hk
      cases b <;> simp -implicitDefEqProofs [Tryz.f231, hk, c1]
    · rw [if_neg c1] at hk
      by_cases c2 : op ≤ 12
      · rw [if_pos (.inl c2)] at hk
        cases b <;> simp -implicitDefEqProofs [Tryz.f231, hk, c1, c2]
      · by_cases c3 : 19 ≤ op
        · rw [if_pos (.inr c3)] at hk
          cases b <;> simp -implicitDefEqProofs [Tryz.f231, hk, c1, c2, c3]
        · rw [if_neg (by omega)] at hk
          cases b <;> simp -implicitDefEqProofs [Tryz.f231, hk, c1, c2, c3]
theorem Type_ev (l : List Tm) (hl : l.length < 1000000) : Gives 182 [L (l.map Tm.c)] (V.int .i64 (tyV l)) := by
  have h := fold_ev 231 tyM typed_ev (by kernel_rfl) (by kernel_rfl) l hl
  refine .intro Tryz.func182 (by kernel_rfl) (h.imp fun k h ro gl => ?_)
  unfold tyV
  simp -implicitDefEqProofs [Tryz.f182, h]
/-! The document's. -/
def rtT (op : Int) : Int := if op = 12 ∨ 19 ≤ op then 2 else 1
theorem rtT_eq {op : Int} (h : arity op = 1 ∨ arity op = 2) : tyT op = rtT op := by
  have : op = 3 ∨ op = 12 ∨ (4 ≤ op ∧ op ≤ 8) ∨ (13 ≤ op ∧ op ≤ 20) := by
    rcases h with h | h
    · have := arity1_op h; omega
    · have := arity2_op h; omega
  unfold tyT rtT
  repeat' split
  all_goals omega
def rtS (l : List Tm) (op : Int) (ks : List Nat) (j : Nat) (gl : List (List W)) (ro : Nat) : St := st 39 [(0, .c (L (l.map Tm.c))), (5, V.int .i64 op), (6, .c (L (ks.map iD))), (7, V.int .i64 (rtT op)), (8, V.int .i64 j)] [] [] gl ro
end Go.Proofs.YtckonoejmjblfaaGreatDoor.Ev

/- Names of terms; why an expression comes to nothing. -/
set_option linter.unusedVariables false
set_option linter.unusedSimpArgs false
set_option maxRecDepth 100000
set_option maxHeartbeats 4000000
namespace Go.Proofs.YtckonoejmjblfaaGreatDoor.Ev
open Go Go.RowKit

/-- The names of all terms that do something. -/
def namesV (op : Int) : List Tm → List (List UInt8)
  | [] => []
  | t :: r => if t.op = op then t.name :: namesV op r else namesV op r
theorem namesV_snoc (op : Int) (t : Tm) : ∀ l : List Tm, namesV op (l ++ [t]) = if t.op = op then namesV op l ++ [t.name] else namesV op l
  | [] => by simp only [List.nil_append, namesV]
  | a :: r => by
    have ih := namesV_snoc op t r
    simp only [List.cons_append, namesV, ih]
    by_cases h : a.op = op
    · rw [if_pos h]
      split
      · simp [h]
      · simp [h]
    · rw [if_neg h]
      simp [h]
theorem namesV_len (op : Int) : ∀ l : List Tm, (namesV op l).length ≤ l.length
  | [] => Nat.le_refl _
  | t :: r => by
    have := namesV_len op r
    simp only [namesV]
    split <;> simp <;> omega
def nmS (l : List Tm) (op : Int) (i : Nat) (acc : List (List UInt8)) (gl : List (List W)) (ro : Nat) : St :=
  st 25 [(1, V.int .i64 op), (5, if acc = [] then .c (.w (.full [])) else .c (.w (.app 22 (acc.map sD)))), (8, .c (L (l.map Tm.c))), (9, V.int .i64 l.length), (10, V.int .i64 i), (22, if acc = [] then V.un else .c (.w (.app 22 (acc.map sD))))] [] (if acc = [] then [] else [(22, ⟨acc.length, 9, 1⟩)]) gl ro
theorem nm_loop (call : Caller) (N : Nat) (gl : List (List W)) (ro : Nat) (l : List Tm) (op : Int) (hl : l.length < 1000000) (n : Nat) (hn : l.length < n) (S : St) (hS : S.hav [1, 5, 8, 9, 10, 22] = nmS l op 0 [] gl ro) :
    loopA (evC Tryz.prog cf 227 call N (bodyOf Tryz.f227 0)) [1, 5, 8, 9, 10, 22] [] n S = some (.exit 0, nmS l op l.length (namesV op l) gl ro) := by
  refine loop_by (keep := [1, 5, 8, 9, 10, 22]) (res := []) (fun i : Nat => nmS l op i (namesV op (l.take i)) gl ro) (fun i => i ≤ l.length) (fun i => l.length - i) (fun i => (.exit 0, nmS l op l.length (namesV op l) gl ro)) ?_ n 0 S (Nat.zero_le _) (by omega) hS
  intro i hi
  have hacc := namesV_len op (l.take i)
  have htl : (l.take i).length ≤ l.length := by simp [List.length_take]; omega
  by_cases hi' : i = l.length
  · subst hi'
    refine .inr (.inl ⟨0, nmS l op l.length (namesV op l) gl ro, ?_, rfl⟩)
    rw [List.take_of_length_le (Nat.le_refl _)]
    generalize namesV op l = acc
    by_cases h0 : acc = []
    · subst h0
      simp -implicitDefEqProofs [nmS, bodyOf, loopsOf, hv, Tryz.f227]
    · simp -implicitDefEqProofs [nmS, bodyOf, loopsOf, hv, Tryz.f227, h0]
  · have h1 : i < l.length := by omega
    have h1' : (i : Int) < l.length := by omega
    have ca : l[i]? = some l[i] := List.getElem?_eq_getElem h1
    have ht : l.take (i + 1) = l.take i ++ [l[i]] := by rw [List.take_add_one, ca]; rfl
    generalize l[i] = x at ca ht
    have w : IntKind.i64.wrap ((i : Int) + 1) = (i : Int) + 1 := i64w _ (by omega)
    have hx : l[i] = x := (List.getElem?_eq_some_iff.1 ca).2
    refine .inl ⟨i + 1, by omega, by omega, ?_, rfl⟩
    rw [ht, namesV_snoc]
    generalize namesV op (l.take i) = acc at hacc
    obtain ⟨o, m, nm⟩ := x
    by_cases hp : o = op
    · rw [if_pos hp]
      subst hp
      have g1 : acc.length + 1 ≤ 9223372036854775807 := by omega
      have g2 : (acc.length + 1) * 16 ≤ 140737488355328 := by omega
      have g3 : acc.length ≤ 9223372036854775806 := by omega
      by_cases h0 : acc = []
      · subst h0
        simp -implicitDefEqProofs [nmS, bodyOf, loopsOf, hv, Tryz.f227, h1, h1', hx, Tm.c, w]
      · simp -implicitDefEqProofs [nmS, bodyOf, loopsOf, hv, Tryz.f227, h1, h1', hx, Tm.c, w, h0, g1, g2, g3]
    · rw [if_neg hp]
      by_cases h0 : acc = []
      · subst h0
        simp -implicitDefEqProofs [nmS, bodyOf, loopsOf, hv, Tryz.f227, h1, h1', hx, Tm.c, w, hp]
      · simp -implicitDefEqProofs [nmS, bodyOf, loopsOf, hv, Tryz.f227, h1, h1', hx, Tm.c, w, h0, hp]
theorem Names_ev (l : List Tm) (op : Int) (hl : l.length < 1000000) : Gives 227 [L (l.map Tm.c), I op] (.c (L ((namesV op l).map sD))) := by
  refine .intro Tryz.func227 (by kernel_rfl) (Evt.ge (l.length + 1) |>.imp fun k hk ro gl => ?_)
  have tail : ∀ S : St, S.hav [1, 5, 8, 9, 10, 22] = nmS l op 0 [] gl gl.length → loopC Tryz.prog cf 227 (ev k) k (bodyOf Tryz.f227 0) S = _ := fun S hS => nm_loop (ev k) k gl gl.length l op hl k (by omega) S hS
  simp -implicitDefEqProofs [Tryz.f227]
  refine bind_go (tail _ ?_) ?_
  · simp [nmS]
  · generalize namesV op l = acc
    by_cases h0 : acc = []
    · subst h0
      simp [nmS]
    · simp [nmS, h0]
theorem noneV_names (vs : List Vr) : ∀ l : List Tm, ((namesV 2 l).any fun s => decide (placeV vs s < 0)) = noneV l vs
  | [] => rfl
  | t :: r => by
    have ih := noneV_names vs r
    unfold noneV at ih ⊢
    simp only [namesV, List.any_cons]
    by_cases h : t.op = 2
    · rw [if_pos h, List.any_cons, ih]
      simp [h]
    · rw [if_neg h, ih]
      simp [h]
theorem Check1e_ev (en : En) (hl : en.vars.length < 1000000) (l : List (List UInt8)) : FnO T 228 en.ws (fun s => decide (placeV en.vars s < 0)) l := by
  have h : Evt fun k => ∀ s ∈ l, ∀ ro gl, ev k 229 [en.w, T s] ro gl = some (V.int .i64 (placeV en.vars s), gl) := Evt.all l fun s _ => place_ev en s hl
  refine .intro Tryz.func228 (by kernel_rfl) (h.imp fun k h s hs ro gl o ho => ?_)
  have h1 := h s hs
  simp [En.w, En.ws] at h1
  simp [En.ws] at ho
  simp -implicitDefEqProofs [Tryz.f228, ho, h1]
/-- Why an expression comes to nothing: the program's. -/
theorem evCheck_ev (l : List Tm) (en : En) (hs : ∀ t ∈ l, t.name.length ≤ 9223372036854775807) (hl : l.length < 1000000) (hv : en.vars.length < 1000000) : Gives 181 [L (l.map Tm.c), en.w] (V.int .i64 (evalE l en.vars)) := by
  have h1 := Check_ev l hs (by omega)
  have h2 := Type_ev l hl
  have h3 := Names_ev l 2 hl
  have h4 := ContainsSt_ev 228 (by kernel_rfl) (by kernel_rfl) en.ws (fun s => decide (placeV en.vars s < 0)) (namesV 2 l) (by have := namesV_len 2 l; omega) (Check1e_ev en hv (namesV 2 l))
  rw [noneV_names] at h4
  unfold evalE
  by_cases c0 : 4 < en.vars.length
  · rw [if_pos c0]
    have c0' : (4 : Int) < en.vars.length := by omega
    refine .intro Tryz.func181 (by kernel_rfl) (.of fun k ro gl => ?_)
    simp -implicitDefEqProofs [Tryz.f181, En.w, En.ws, c0']
  rw [if_neg c0]
  have c0' : ¬ (4 : Int) < en.vars.length := by omega
  refine .intro Tryz.func181 (by kernel_rfl) ((h1.and (h2.and (h3.and h4))).imp fun k ⟨h1, h2, h3, h4⟩ ro gl => ?_)
  have h4 := fun ro => h4 ro (gl ++ [en.ws]) gl.length (get_last _ _)
  generalize checkV l = c at h1 ⊢
  generalize tyV l = y at h2 ⊢
  generalize noneV l en.vars = b at h4 ⊢
  simp [En.ws] at h4
  by_cases c1 : c = 0
  · rw [if_neg (by simp [c1])]
    subst c1
    by_cases c2 : y = 0
    · rw [if_pos c2]
      subst c2
      simp -implicitDefEqProofs [Tryz.f181, En.w, En.ws, c0', h1, h2]
    · rw [if_neg c2]
      cases b <;> simp -implicitDefEqProofs [Tryz.f181, En.w, En.ws, c0', h1, h2, c2, h3, h4]
  · rw [if_pos c1]
    simp -implicitDefEqProofs [Tryz.f181, En.w, En.ws, c0', h1, c1]
/-! The document's. -/
def rkP (l : List Tm) (en : En) (i : Nat) (gl : List (List W)) (ro : Nat) : St := st 41 [(0, .c (L (l.map Tm.c))), (3, .c (.w (.box 3 0))), (6, V.int .i64 i)] [(3, en.ws)] [] gl ro
end Go.Proofs.YtckonoejmjblfaaGreatDoor.Ev
