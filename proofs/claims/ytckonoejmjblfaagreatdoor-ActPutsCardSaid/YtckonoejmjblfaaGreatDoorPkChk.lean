/- Layer 5: Check, the program's; layer 6: Put, the program's. -/
import Derived.Test.YtckonoejmjblfaaGreatDoorPkPut
import Derived.Test.YtckonoejmjblfaaGreatDoorPkExpD
import Derived.Test.YtckonoejmjblfaaGreatDoorPkTrmB
import Derived.Test.YtckonoejmjblfaaGreatDoorPkTrmA
import Derived.Test.YtckonoejmjblfaaGreatDoorPkTrmC
set_option linter.unusedVariables false
set_option linter.unusedSimpArgs false
set_option maxRecDepth 100000
set_option maxHeartbeats 2000000
namespace Go.Proofs.YtckonoejmjblfaaGreatDoor.Ev
open Go Go.RowKit

def FnB (f : Nat) (p : Tm → Bool) (l : List Tm) : Prop := Evt fun k => ∀ t ∈ l, ∀ ro gl, ev k f [t.w] ro gl = some (V.bool (p t), gl)
def ixS (f : Nat) (l : List Tm) (i : Nat) (gl : List (List W)) (ro : Nat) : St := st 19 [(0, .c (L (l.map Tm.c))), (1, .c (.w (.fn f []))), (7, V.int .i64 l.length), (8, V.int .i64 i)] [] [] gl ro
def ixR (f : Nat) (l : List Tm) (i : Nat) (o : Option Nat) (gl : List (List W)) (ro : Nat) : Ex × St := match o with
  | some j => (.ret, st 19 [(4, V.int .i64 (i + j : Nat))] [] [] gl ro)
  | none => (.exit 0, ixS f l l.length gl ro)
theorem ix_loop (f : Nat) (hf : cfRo f = true) (hfl : cfFul f = false) (p : Tm → Bool) (l : List Tm) (hl : l.length < 1000000) (h : FnB f p l) : Evt fun k => ∀ gl ro S, S.hav [0, 1, 7, 8] = ixS f l 0 gl ro →
    loopA (evC Tryz.prog cf 251 (ev k) k (bodyOf Tryz.f251 0)) [0, 1, 7, 8] [4] k S = some (ixR f l 0 (l.findIdx? p) gl ro) := by
  refine (h.and (Evt.ge (l.length + 1))).imp fun k ⟨h, hk⟩ gl ro S hS => ?_
  refine loop_by (keep := [0, 1, 7, 8]) (res := [4]) (fun i : Nat => ixS f l i gl ro) (fun i => i ≤ l.length) (fun i => l.length - i) (fun i => ixR f l i ((l.drop i).findIdx? p) gl ro) ?_ k 0 S (Nat.zero_le _) (by omega) hS
  intro i hi
  by_cases hi' : i = l.length
  · subst hi'
    refine .inr (.inl ⟨0, ixS f l l.length gl ro, ?_, ?_⟩)
    · simp -implicitDefEqProofs [ixS, bodyOf, loopsOf, hv, Tryz.f251]
    · rw [List.drop_of_length_le (Nat.le_refl _)]; rfl
  · have h1 : i < l.length := by omega
    have h1' : (i : Int) < l.length := by omega
    have da : l.drop i = l[i] :: l.drop (i + 1) := List.drop_eq_getElem_cons h1
    have ca : l[i]? = some l[i] := List.getElem?_eq_getElem h1
    have hm := h l[i] (List.getElem_mem h1)
    generalize l[i] = x at da ca hm
    have w : IntKind.i64.wrap ((i : Int) + 1) = (i : Int) + 1 := i64w _ (by omega)
    have hx : l[i] = x := (List.getElem?_eq_some_iff.1 ca).2
    simp [Tm.w] at hm
    by_cases hp : p x = true
    · refine .inr (.inr ⟨st 19 [(4, V.int .i64 i)] [] [] gl ro, ?_, ?_⟩)
      · simp -implicitDefEqProofs [ixS, bodyOf, loopsOf, hv, Tryz.f251, h1, h1', hx, Tm.c, w, hm, hp, hf, hfl]
      · rw [da, List.findIdx?_cons, if_pos hp]; rfl
    · refine .inl ⟨i + 1, by omega, by omega, ?_, ?_⟩
      · have hp : p x = false := by simpa using hp
        simp -implicitDefEqProofs [ixS, bodyOf, loopsOf, hv, Tryz.f251, h1, h1', hx, Tm.c, w, hm, hp, hf, hfl]
      · rw [da, List.findIdx?_cons, if_neg hp]
        cases (l.drop (i + 1)).findIdx? p with
        | none => rfl
        | some j => simp only [Option.map_some, ixR]; rw [show i + 1 + j = i + (j + 1) by omega]
def ixV (o : Option Nat) : Int := match o with
  | some j => j
  | none => -1
theorem IndexFunc_ev (f : Nat) (hf : cfRo f = true) (hfl : cfFul f = false) (p : Tm → Bool) (l : List Tm) (hl : l.length < 1000000) (h : FnB f p l) : Gives 251 [L (l.map Tm.c), .w (.fn f [])] (V.int .i64 (ixV (l.findIdx? p))) := by
  refine .intro Tryz.func251 (by kernel_rfl) ((ix_loop f hf hfl p l hl h).imp fun k h2 ro gl => ?_)
  have tail : ∀ S : St, S.hav [0, 1, 7, 8] = ixS f l 0 gl gl.length → loopC Tryz.prog cf 251 (ev k) k (bodyOf Tryz.f251 0) S = _ := fun S hS => h2 gl gl.length S hS
  simp -implicitDefEqProofs [Tryz.f251]
  refine bind_go (tail _ ?_) ?_
  · simp [ixS]
  · cases l.findIdx? p with
    | none => simp [ixR, ixS, ixV]
    | some j => simp [ixR, ixS, ixV]
theorem ContainsFunc_ev (f : Nat) (hf : cfRo f = true) (hfl : cfFul f = false) (p : Tm → Bool) (l : List Tm) (hl : l.length < 1000000) (h : FnB f p l) : Gives 189 [L (l.map Tm.c), .w (.fn f [])] (V.bool (l.any p)) := by
  refine .intro Tryz.func189 (by kernel_rfl) ((IndexFunc_ev f hf hfl p l hl h).imp fun k h2 ro gl => ?_)
  have e : l.any p = decide (0 ≤ ixV (l.findIdx? p)) := by
    rw [← List.findIdx?_isSome]
    cases l.findIdx? p with
    | none => rfl
    | some j => simp [ixV]
  rw [e]
  simp -implicitDefEqProofs [Tryz.f189, h2]
theorem Check1_ev (l : List Tm) (hs : ∀ t ∈ l, t.name.length ≤ 9223372036854775807) : FnB 190 (fun t => !t.may) l := by
  have : Evt fun k => ∀ t ∈ l, ∀ ro gl, ev k 191 [t.w] ro gl = some (V.bool t.may, gl) := Evt.all l fun t ht => may_ev t (hs t ht)
  refine Evt.up (fun _ q => ∀ t ∈ l, ∀ ro gl, q [t.w] ro gl = some (V.bool (!t.may), gl)) Tryz.func190 (by kernel_rfl) (this.imp fun k h t ht ro gl => ?_) fun _ _ h => h
  have h := h t ht
  generalize t.may = b at h ⊢
  simp [Tm.w] at h
  simp -implicitDefEqProofs [Tryz.f190, Tm.w, h]
end Go.Proofs.YtckonoejmjblfaaGreatDoor.Ev

/- Layer 5: Check, the program's; layer 6: Put, the program's. -/
set_option linter.unusedVariables false
set_option linter.unusedSimpArgs false
set_option maxRecDepth 100000
set_option maxHeartbeats 2000000
namespace Go.Proofs.YtckonoejmjblfaaGreatDoor.Ev
open Go Go.RowKit

def checkV (l : List Tm) : Int := if 40 < l.length then 8 else if wholeB l = false ∨ (l.any fun t => !t.may) = true then 1 else if 12 < depV l then 6 else 0
theorem whole_of {l : List Tm} (h : wholeB l = true) : ∃ e : Tr, e.wf ∧ l = e.flat := by
  unfold wholeB at h
  simp only [Bool.and_eq_true, decide_eq_true_eq] at h
  exact (whole_tree l).1 h.2
theorem Check_ev (l : List Tm) (hs : ∀ t ∈ l, t.name.length ≤ 9223372036854775807) (hl : l.length ≤ 9223372036854775807) : Gives 131 [L (l.map Tm.c)] (V.int .i64 (checkV l)) := by
  unfold checkV
  by_cases h40 : 40 < l.length
  · rw [if_pos h40]
    have j40 : (40 : Int) < l.length := by omega
    refine .intro Tryz.func131 (by kernel_rfl) (.of fun k ro gl => ?_)
    simp -implicitDefEqProofs [Tryz.f131, j40]
  · rw [if_neg h40]
    have j40 : ¬ (40 : Int) < l.length := by omega
    have hw := whole_ev l (by omega)
    have hc := ContainsFunc_ev 190 (by kernel_rfl) (by kernel_rfl) (fun t => !t.may) l (by omega) (Check1_ev l hs)
    by_cases h1 : wholeB l = false
    · rw [if_pos (.inl h1)]
      rw [h1] at hw
      refine .intro Tryz.func131 (by kernel_rfl) (hw.imp fun k h ro gl => ?_)
      simp -implicitDefEqProofs [Tryz.f131, j40, h]
    · have h1' : wholeB l = true := by simpa using h1
      rw [h1'] at hw
      by_cases h2 : (l.any fun t => !t.may) = true
      · rw [if_pos (.inr h2)]
        rw [h2] at hc
        refine .intro Tryz.func131 (by kernel_rfl) ((hw.and hc).imp fun k ⟨h, h'⟩ ro gl => ?_)
        simp -implicitDefEqProofs [Tryz.f131, j40, h, h']
      · rw [if_neg (by simp [h1', h2])]
        have h2' : (l.any fun t => !t.may) = false := by simpa using h2
        rw [h2'] at hc
        obtain ⟨e, e1, e2⟩ := whole_of h1'
        have hd := Depth_ev l (by omega)
        rw [e2, foldD_dep e1 (by rw [← e2]; omega), ← e2] at hd
        rw [depV_eq e1 e2]
        by_cases h12 : 12 < e.dep
        · rw [if_pos h12]
          have j12 : (12 : Int) < e.dep := by omega
          refine .intro Tryz.func131 (by kernel_rfl) ((hw.and (hc.and hd)).imp fun k ⟨h, h', h''⟩ ro gl => ?_)
          simp -implicitDefEqProofs [Tryz.f131, j40, h, h', h'', j12]
        · rw [if_neg h12]
          have j12 : ¬ (12 : Int) < e.dep := by omega
          refine .intro Tryz.func131 (by kernel_rfl) ((hw.and (hc.and hd)).imp fun k ⟨h, h', h''⟩ ro gl => ?_)
          simp -implicitDefEqProofs [Tryz.f131, j40, h, h', h'', j12]
/-- An expression's text. -/
def txtV (l : List Tm) : List UInt8 := match stk l with
  | some [e] => e.txt
  | _ => []
theorem txtV_eq {e : Tr} (h : e.wf) {l : List Tm} (hl : l = e.flat) : txtV l = e.txt := by rw [hl]; unfold txtV; rw [stk_whole e h]
theorem EPut_ev (l : List Tm) (hs : ∀ t ∈ l, t.name.length ≤ 9223372036854775807) (hl : l.length ≤ 9223372036854775807) : Gives 75 [L (l.map Tm.c)] (.tup [T (if checkV l = 0 then txtV l else []), I (checkV l)]) := by
  have hc := Check_ev l hs hl
  by_cases h0 : checkV l = 0
  · rw [if_pos h0]
    have hx : ∃ e : Tr, e.wf ∧ l = e.flat ∧ (∀ t ∈ l, t.may = true) ∧ l.length ≤ 40 := by
      unfold checkV at h0
      split at h0
      · cases h0
      · rename_i h40
        split at h0
        · cases h0
        · rename_i h1
          simp only [not_or] at h1
          obtain ⟨e, e1, e2⟩ := whole_of (l := l) (by simpa using h1.1)
          refine ⟨e, e1, e2, fun t ht => ?_, by omega⟩
          have := h1.2
          simp only [List.any_eq_true, not_exists, not_and] at this
          simpa using this t ht
    obtain ⟨e, e1, e2, e3, e4⟩ := hx
    have ho := open_ev e e1 (e2 ▸ e3) l 0 (e2 ▸ Tr.At.root e) (by omega)
    rw [txtV_eq e1 e2]
    refine .intro Tryz.func75 (by kernel_rfl) ((hc.and ho).imp fun k ⟨h, h'⟩ ro gl => ?_)
    rw [h0] at h
    simp at h'
    simp -implicitDefEqProofs [Tryz.f75, h, h', h0]
  · rw [if_neg h0]
    refine .intro Tryz.func75 (by kernel_rfl) (hc.imp fun k h ro gl => ?_)
    simp -implicitDefEqProofs [Tryz.f75, h, h0]
end Go.Proofs.YtckonoejmjblfaaGreatDoor.Ev

/- Layer 5: Check, the document's. -/
set_option linter.unusedVariables false
set_option linter.unusedSimpArgs false
set_option maxRecDepth 100000
set_option maxHeartbeats 2000000
namespace Go.Proofs.YtckonoejmjblfaaGreatDoor.Ev
open Go Go.RowKit

theorem wf_op : ∀ (e : Tr), e.wf → ∀ t ∈ e.flat, ¬ (t.op < 1 ∨ 20 < t.op)
  | .leaf t, hw, u, hu => by
    simp only [Tr.flat, List.mem_singleton] at hu
    subst hu
    have := arity0 hw
    omega
  | .one t a, hw, u, hu => by
    simp only [Tr.flat, List.mem_cons] at hu
    rcases hu with rfl | hu
    · have := arity1 hw.1
      omega
    · exact wf_op a hw.2 u hu
  | .two t a b, hw, u, hu => by
    simp only [Tr.flat, List.mem_cons, List.mem_append] at hu
    rcases hu with rfl | hu | hu
    · have := arity2 hw.1
      omega
    · exact wf_op a hw.2.1 u hu
    · exact wf_op b hw.2.2 u hu
def kyS (l : List Tm) (i : Nat) (gl : List (List W)) (ro : Nat) : St := st 25 [(0, .c (L (l.map Tm.c))), (3, V.int .i64 i)] [] [] gl ro
theorem ky_loop (l : List Tm) (hl : l.length ≤ 40) (hs : ∀ t ∈ l, t.name.length ≤ 9223372036854775807) (ho : ∀ t ∈ l, ¬ (t.op < 1 ∨ 20 < t.op)) : Evt fun k => ∀ gl ro S, S.hav [0, 3] = kyS l 0 gl ro →
    loopA (evC Tryz.prog cf 97 (ev k) k (bodyOf Tryz.f97 0)) [0, 3] [2] k S = some (if (l.any fun t => !t.may) = true then (.ret, st 25 [(2, V.int .i64 1)] [] [] gl ro) else (.exit 0, kyS l l.length gl ro)) := by
  have hmay : Evt fun k => ∀ t ∈ l, ∀ ro gl, ev k 156 [t.w] ro gl = some (V.bool t.may, gl) := Evt.all l fun t ht => by
    have := rMay_ev t (hs t ht)
    rw [if_neg (ho t ht)] at this
    exact this
  refine (hmay.and (Evt.ge (l.length + 1))).imp fun k ⟨h, hk⟩ gl ro S hS => ?_
  refine loop_by (keep := [0, 3]) (res := [2]) (fun i : Nat => kyS l i gl ro) (fun i => i ≤ l.length) (fun i => l.length - i) (fun i => if ((l.drop i).any fun t => !t.may) = true then (.ret, st 25 [(2, V.int .i64 1)] [] [] gl ro) else (.exit 0, kyS l l.length gl ro)) ?_ k 0 S (Nat.zero_le _) (by omega) hS
  intro i hi
  by_cases hi' : i = l.length
  · subst hi'
    refine .inr (.inl ⟨0, kyS l l.length gl ro, ?_, ?_⟩)
    · simp -implicitDefEqProofs [kyS, bodyOf, loopsOf, hv, Tryz.f97]
    · rw [List.drop_of_length_le (Nat.le_refl _)]; rfl
  · have h1 : i < l.length := by omega
    have h1' : (i : Int) < l.length := by omega
    have da : l.drop i = l[i] :: l.drop (i + 1) := List.drop_eq_getElem_cons h1
    have ca : l[i]? = some l[i] := List.getElem?_eq_getElem h1
    have hm := h l[i] (List.getElem_mem h1)
    generalize l[i] = x at da ca hm
    have w : IntKind.i64.wrap ((i : Int) + 1) = (i : Int) + 1 := i64w _ (by omega)
    have hx : l[i] = x := (List.getElem?_eq_some_iff.1 ca).2
    simp [Tm.w] at hm
    by_cases hp : x.may = true
    · refine .inl ⟨i + 1, by omega, by omega, ?_, ?_⟩
      · simp -implicitDefEqProofs [kyS, bodyOf, loopsOf, hv, Tryz.f97, h1, h1', hx, Tm.c, w, hm, hp]
      · rw [da, List.any_cons, hp]; rfl
    · have hp : x.may = false := by simpa using hp
      refine .inr (.inr ⟨st 25 [(2, V.int .i64 1)] [] [] gl ro, ?_, ?_⟩)
      · simp -implicitDefEqProofs [kyS, bodyOf, loopsOf, hv, Tryz.f97, h1, h1', hx, Tm.c, w, hm, hp]
      · rw [da, List.any_cons, hp]; simp
theorem rCheck_ev (l : List Tm) (hs : ∀ t ∈ l, t.name.length ≤ 9223372036854775807) (hl : l.length ≤ 9223372036854775807) : Gives 97 [L (l.map Tm.c)] (V.int .i64 (checkV l)) := by
  unfold checkV
  by_cases h40 : 40 < l.length
  · rw [if_pos h40]
    have j40 : (40 : Int) < l.length := by omega
    refine .intro Tryz.func97 (by kernel_rfl) (.of fun k ro gl => ?_)
    simp -implicitDefEqProofs [Tryz.f97, j40]
  · rw [if_neg h40]
    have j40 : ¬ (40 : Int) < l.length := by omega
    have hw := rWhole_ev l (by omega)
    by_cases h1 : wholeB l = false
    · rw [if_pos (.inl h1)]
      rw [h1] at hw
      refine .intro Tryz.func97 (by kernel_rfl) (hw.imp fun k h ro gl => ?_)
      simp -implicitDefEqProofs [Tryz.f97, j40, h]
    · have h1' : wholeB l = true := by simpa using h1
      rw [h1'] at hw
      obtain ⟨e, e1, e2⟩ := whole_of h1'
      have lp := ky_loop l (by omega) hs (e2 ▸ wf_op e e1)
      have hd := rDepth_ev e e1 l 0 (e2 ▸ Tr.At.root e) (by omega)
      by_cases h2 : (l.any fun t => !t.may) = true
      · rw [if_pos (.inr h2)]
        refine .intro Tryz.func97 (by kernel_rfl) ((hw.and lp).imp fun k ⟨h, h'⟩ ro gl => ?_)
        have tail : ∀ S : St, S.hav [0, 3] = kyS l 0 gl gl.length → loopC Tryz.prog cf 97 (ev k) k (bodyOf Tryz.f97 0) S = _ := fun S hS => h' gl gl.length S hS
        simp -implicitDefEqProofs [Tryz.f97, j40, h]
        refine bind_go (tail _ ?_) ?_
        · simp [kyS]
        · rw [if_pos h2]; simp
      · rw [if_neg (by simp [h1', h2]), depV_eq e1 e2]
        by_cases h12 : 12 < e.dep
        · rw [if_pos h12]
          have j12 : (12 : Int) < e.dep := by omega
          refine .intro Tryz.func97 (by kernel_rfl) ((hw.and (lp.and hd)).imp fun k ⟨h, h', h''⟩ ro gl => ?_)
          have tail : ∀ S : St, S.hav [0, 3] = kyS l 0 gl gl.length → loopC Tryz.prog cf 97 (ev k) k (bodyOf Tryz.f97 0) S = _ := fun S hS => h' gl gl.length S hS
          simp at h''
          simp -implicitDefEqProofs [Tryz.f97, j40, h]
          refine bind_go (tail _ ?_) ?_
          · simp [kyS]
          · rw [if_neg h2]; simp -implicitDefEqProofs [kyS, h'', j12]
        · rw [if_neg h12]
          have j12 : ¬ (12 : Int) < e.dep := by omega
          refine .intro Tryz.func97 (by kernel_rfl) ((hw.and (lp.and hd)).imp fun k ⟨h, h', h''⟩ ro gl => ?_)
          have tail : ∀ S : St, S.hav [0, 3] = kyS l 0 gl gl.length → loopC Tryz.prog cf 97 (ev k) k (bodyOf Tryz.f97 0) S = _ := fun S hS => h' gl gl.length S hS
          simp at h''
          simp -implicitDefEqProofs [Tryz.f97, j40, h]
          refine bind_go (tail _ ?_) ?_
          · simp [kyS]
          · rw [if_neg h2]; simp -implicitDefEqProofs [kyS, h'', j12]
end Go.Proofs.YtckonoejmjblfaaGreatDoor.Ev
