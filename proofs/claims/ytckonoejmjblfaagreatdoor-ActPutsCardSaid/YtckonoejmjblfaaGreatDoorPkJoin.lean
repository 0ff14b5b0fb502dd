/- strings.Join, by the shelf's contract. -/
import Derived.Test.YtckonoejmjblfaaGreatDoorPkEvOR
import Derived.Test.YtckonoejmjblfaaGreatDoorPkNam
import Derived.Shelf.Strings.OnBuilder
set_option linter.unusedVariables false
set_option linter.unusedSimpArgs false
set_option maxRecDepth 100000
set_option maxHeartbeats 2000000
namespace Go.Proofs.YtckonoejmjblfaaGreatDoor.Ev
open Go Go.RowKit

def shRen : Go.Shelf.Ren := ⟨fun | 156 => 38 | 165 => 89 | 166 => 86 | 169 => 41 | 240 => 149 | 241 => 152 | 276 => 211 | 277 => 214 | n => n, fun | 0 => 0 | 3 => 3 | 4 => 4 | 5 => 5 | 9 => 9 | 20 => 20 | 31 => 22 | 37 => 75 | 70 => 74 | 72 => 77 | 75 => 132 | 76 => 133 | 80 => 83 | 127 => 139 | 164 => 235 | n => n, fun n => n⟩
theorem sh_Lays_n156 : Lays.n156 Tryz.prog shRen := {
  mixed := by kernel_rfl
  f156 := by kernel_rfl
  f165 := by kernel_rfl
  f166 := by kernel_rfl
  f169 := by kernel_rfl
  f240 := by kernel_rfl
  f241 := by kernel_rfl
  f276 := by kernel_rfl
  f277 := by kernel_rfl
  t0 := by kernel_rfl
  a0 := fun _ => by kernel_rfl
  z0 := fun _ => by kernel_rfl
  v0 := fun _ => by kernel_rfl
  t3 := by kernel_rfl
  a3 := fun _ => by kernel_rfl
  z3 := fun _ => by kernel_rfl
  v3 := fun _ => by kernel_rfl
  t4 := by kernel_rfl
  a4 := fun _ => by kernel_rfl
  z4 := fun _ => by kernel_rfl
  v4 := fun _ => by kernel_rfl
  t9 := by kernel_rfl
  a9 := fun _ => by kernel_rfl
  z9 := fun _ => by kernel_rfl
  v9 := fun _ => by kernel_rfl
  t20 := by kernel_rfl
  a20 := fun _ => by kernel_rfl
  z20 := fun _ => by kernel_rfl
  v20 := fun _ => by kernel_rfl
  t31 := by kernel_rfl
  a31 := fun _ => by kernel_rfl
  z31 := fun _ => by kernel_rfl
  v31 := fun _ => by kernel_rfl
  t37 := by kernel_rfl
  a37 := fun _ => by kernel_rfl
  z37 := fun _ => by kernel_rfl
  v37 := fun _ => by kernel_rfl
  t70 := by kernel_rfl
  a70 := fun _ => by kernel_rfl
  z70 := fun _ => by kernel_rfl
  v70 := fun _ => by kernel_rfl
  t72 := by kernel_rfl
  a72 := fun _ => by kernel_rfl
  z72 := fun _ => by kernel_rfl
  v72 := fun _ => by kernel_rfl
  t75 := by kernel_rfl
  a75 := fun _ => by kernel_rfl
  z75 := fun _ => by kernel_rfl
  v75 := fun _ => by kernel_rfl
  t76 := by kernel_rfl
  a76 := fun _ => by kernel_rfl
  z76 := fun _ => by kernel_rfl
  v76 := fun _ => by kernel_rfl
  t127 := by kernel_rfl
  a127 := fun _ => by kernel_rfl
  z127 := fun _ => by kernel_rfl
  v127 := fun _ => by kernel_rfl
  t164 := by kernel_rfl
  a164 := fun _ => by kernel_rfl
  z164 := fun _ => by kernel_rfl
  v164 := fun _ => by kernel_rfl
 }
theorem sh_Builder_X72 : Builder.X72 Tryz.prog shRen := {
  sizeBuilder := by kernel_rfl
  liesBuilder := by kernel_rfl
 }
theorem sh_Builder_Extra : Builder.Extra Tryz.prog shRen := {
  toX72 := sh_Builder_X72
  t5 := by kernel_rfl
  a5 := fun _ => by kernel_rfl
  z5 := fun _ => by kernel_rfl
  v5 := fun _ => by kernel_rfl
  infoByte := by kernel_rfl
  cellsByte := by kernel_rfl
  sizeByte := by kernel_rfl
  neB5 := by decide
 }
theorem join_eq (sep : List UInt8) : ∀ l : List (List UInt8), Lib.join l sep = joinB sep l
  | [] => rfl
  | [a] => Lib.join_one a sep
  | a :: b :: r => by
    have ih := join_eq sep (b :: r)
    rw [Lib.join_cons] at ih ⊢
    simp only [joinB, ← ih, Lib.joinTail, List.map_cons, List.flatten_cons, List.append_assoc]
theorem join_enters : Enters Tryz.prog 38 := ⟨_, Tryz.func38, by kernel_rfl, by kernel_rfl⟩
/-- What a text of the model says. -/
def bsV : Value → ByteArray
  | .string s => s
  | _ => .empty
theorem join_core {Γ : Ctx} {xs : List V} {ro : Nat} {gl : List (List W)} {a : Act} (hI : Inv Γ Γ.w.heap.size { sl := xs, bx := [], tk := [], gl, ro } a) (blk off c : Nat) (us : List Value) (l : List (List UInt8)) (s : ByteArray) (sep : List UInt8) (hsep : s.data.toList = sep)
    (hu : us.length = l.length) (hv : ∀ (j : Nat) u t, us[j]? = some u → l[j]? = some t → RD Γ.F Γ.w u (.str t) ∧ Γ.w.cell? ⟨blk, off + j, none⟩ = some u) (h0 : 0 < l.length) (hc : l.length ≤ c) (hn : l.length ≤ 1000000) (hl : (joinB sep l).length ≤ 1000000) :
    Calls Tryz.prog 38 #[.slice (some ⟨blk, off, none⟩) l.length c, .string s] Γ.w fun e w' => ∃ (Γ' : Ctx) (v : Value), e = .returned v ∧ Γ'.w = w' ∧ Step False Γ.w.heap.size Γ Γ' ∧ Inv Γ' Γ.w.heap.size { sl := [V.str (joinB sep l)], bx := [], tk := [], gl, ro } { tmps := #[v], defers := [] } := by
  have hx : ∀ (j : Nat) x, (us.map bsV)[j]? = some x → Γ.w.cell? ⟨blk, off + j, none⟩ = some (.string x) := by
    intro j x hj
    rw [List.getElem?_map, Option.map_eq_some_iff] at hj
    obtain ⟨u, hu1, rfl⟩ := hj
    have hlt : j < l.length := by rw [← hu]; exact (List.getElem?_eq_some_iff.1 hu1).1
    obtain ⟨h1, h2⟩ := hv j u l[j] hu1 (List.getElem?_eq_getElem hlt)
    cases h1
    exact h2
  have hm : (us.map bsV).map (·.data.toList) = l := by
    apply List.ext_getElem?
    intro j
    rw [List.map_map, List.getElem?_map]
    by_cases hlt : j < l.length
    · have hlt' : j < us.length := by omega
      rw [List.getElem?_eq_getElem hlt', List.getElem?_eq_getElem hlt]
      obtain ⟨h1, _⟩ := hv j us[j] l[j] (List.getElem?_eq_getElem hlt') (List.getElem?_eq_getElem hlt)
      simp only [Option.map_some, Function.comp]
      generalize us[j] = u at h1
      cases h1 with
      | str s0 _ hs _ => simp only [bsV, hs]
    · rw [List.getElem?_eq_none (by omega), List.getElem?_eq_none (by omega)]
      rfl
  have hlen : (us.map bsV).length = l.length := by simp [hu]
  have hbk : blk < Γ.w.heap.size := by
    have hlt' : 0 < us.length := by omega
    obtain ⟨_, h2⟩ := hv 0 us[0] l[0] (List.getElem?_eq_getElem hlt') (List.getElem?_eq_getElem h0)
    apply Classical.byContradiction
    intro hge
    rw [World.cell?, Array.getElem?_eq_none (by simpa using hge)] at h2
    cases h2
  have h := Any.strings_Join (P := Tryz.prog) (ρ := shRen) sh_Lays_n156 sh_Builder_Extra blk off c (us.map bsV) s Γ.w hx hbk (by omega) (by omega) (by rw [hm, hsep, join_eq]; omega)
  rw [hlen, hm, hsep, join_eq] at h
  refine Calls.mono h fun e w' ⟨he, hb⟩ => ?_
  have g : Grow0 Γ { Γ with w := w' } := ⟨rfl, rfl, rfl, rfl, rfl, rfl, rfl, hb.os, hb.tape, hb.output, hb.size, fun g hg => hb.block g hg, fun _ h => h, fun _ h => .inl h⟩
  exact ⟨{ Γ with w := w' }, _, he, rfl, hI.step_of_grow0 g, res_inv (hI.grow0 g) (.str _ _ (by simp) (by simp [ByteArray.size]; omega))⟩
theorem join_none {Γ : Ctx} {xs : List V} {ro : Nat} {gl : List (List W)} {a : Act} (hI : Inv Γ Γ.w.heap.size { sl := xs, bx := [], tk := [], gl, ro } a) (A : Option Addr) (c : Nat) (s : ByteArray) :
    Calls Tryz.prog 38 #[.slice A 0 c, .string s] Γ.w fun e w' => ∃ (Γ' : Ctx) (v : Value), e = .returned v ∧ Γ'.w = w' ∧ Step False Γ.w.heap.size Γ Γ' ∧ Inv Γ' Γ.w.heap.size { sl := [V.str []], bx := [], tk := [], gl, ro } { tmps := #[v], defers := [] } := by
  refine Calls.mono (Any.strings_Join_none (P := Tryz.prog) (ρ := shRen) sh_Lays_n156 sh_Builder_Extra A c s Γ.w) fun e w' ⟨he, hw⟩ => ?_
  exact ⟨Γ, _, he, hw.symm, Step.refl _ _, res_inv hI (.str _ _ rfl (by simp [ByteArray.size]))⟩
theorem strsD_map : ∀ l : List (List UInt8), strsD (l.map sD) = some l
  | [] => rfl
  | a :: r => by simp [strsD, strsD_map r]
theorem strsW_map : ∀ l : List (List UInt8), strsW (l.map fun s => W.d (.str s)) = some l
  | [] => rfl
  | a :: r => by simp [strsW, strsW_map r]
theorem xt_join : xtL.lookup 38 = some 2 := by kernel_rfl
/-- Texts, put together. -/
theorem Join_ev (l : List (List UInt8)) (sep : List UInt8) (hn : l.length ≤ 1000000) (hl : (joinB sep l).length ≤ 1000000) : Gives 38 [L (l.map sD), T sep] (V.str (joinB sep l)) := by
  refine .nat xt_join fun ro gl => ?_
  refine natS_go (r := (V.str (joinB sep l), gl)) (by simp [specJ, strsD_map]) (.inl ⟨join_enters, fun Γ vals hI => ?_⟩) (fun h => ⟨rfl, h⟩)
  obtain ⟨u, v, rfl, hu, hv⟩ := two_vals hI
  cases hv with
  | str s _ hs hm =>
    cases hu with
    | sl A n c sz xs vs hln hc hcm hA hsz hcell hd =>
      rw [List.length_map] at hln
      by_cases h0 : l = []
      · subst h0
        have : n = 0 := by simpa using hln.symm
        subst this
        exact join_none hI A c s
      · have hpos : 0 < l.length := List.length_pos_iff.2 h0
        have hsz1 : sz = 1 := by
          have := hsz 0 (sD l[0]) (by rw [List.getElem?_map, List.getElem?_eq_getElem hpos]; rfl)
          simpa using this.symm
        subst hsz1
        cases A with
        | none => have := hA rfl; omega
        | some ad =>
          obtain ⟨blk, off, sp⟩ := ad
          have hsp : sp = none := by
            have := (hcell _ rfl 0 0 (by omega) (by omega)).2
            simp only [Nat.zero_mul, Nat.add_zero, Addr.add, if_true] at this
            cases sp with
            | none => rfl
            | some x => simp only [World.cell?, Option.isSome_some, if_true] at this; split at this <;> cases this
          subst hsp
          have := join_core hI blk off c ((List.range l.length).map fun i => vs i 0) l s sep hs (by simp) (fun j u t hu ht => by
            have hj : j < l.length := (List.getElem?_eq_some_iff.1 ht).1
            rw [List.getElem?_map, List.getElem?_range hj] at hu
            cases hu
            refine ⟨hd j 0 (sD t) (.str t) (by rw [List.getElem?_map, ht]; rfl) rfl, ?_⟩
            have := (hcell _ rfl j 0 (by omega) (by omega)).2
            rw [Nat.mul_one, Nat.add_zero, add_plain] at this
            exact this) hpos (by omega) hn hl
          rw [hln] at this
          exact this
/-- The same of texts that lie among what calls share. -/
theorem JoinG_ev (l : List (List UInt8)) (sep : List UInt8) (h0 : 0 < l.length) (hn : l.length ≤ 1000000) (hl : (joinB sep l).length ≤ 1000000) : Evt fun k => ∀ ro gl o m, gl[o]? = some (l.map fun s => W.d (.str s)) → ev k 38 [.w (.gsl o 0 l.length m 1), T sep] ro gl = some (V.str (joinB sep l), gl) := by
  refine ⟨1, fun k hk ro gl o m hg => ?_⟩
  obtain ⟨k, rfl⟩ : ∃ m, k = m + 1 := ⟨k - 1, by omega⟩
  have hx : xt 38 = some (natX Tryz.prog 2) := by rw [xt, xt_join]; rfl
  show evF Tryz.prog cf xt (k + 1) 38 [.w (.gsl o 0 l.length m 1), T sep] ro gl = _
  simp only [evF, hx]
  refine natS_go (r := (V.str (joinB sep l), gl)) ?_ (.inl ⟨join_enters, fun Γ vals hI => ?_⟩) (fun h => ⟨rfl, h⟩)
  · have : cut (l.map fun s => W.d (.str s)) 0 l.length = some (l.map fun s => W.d (.str s)) := by
      unfold cut
      simp [List.take_of_length_le]
    simp [specJ, hg, this, strsW_map]
  · obtain ⟨u, v, rfl, hu, hv⟩ := two_vals hI
    cases hv with
    | str s _ hs hm =>
      obtain ⟨c, rfl, h1, h2, h3, h4, h5⟩ := hu
      have hne : (l.map fun s => W.d (.str s)) ≠ [] := by
        intro e
        have := congrArg List.length e
        simp only [List.length_map, List.length_nil] at this
        omega
      obtain ⟨vs, ty, e1, e2, e3, e4, e5, e6⟩ := hI.globs o _ hg hne
      have hle : l.length ≤ vs.toList.length := by
        have := e2.1
        simp only [List.length_take, List.length_map, Array.length_toList] at this ⊢
        omega
      refine join_core hI (Γ.glo o) 0 c (vs.toList.take l.length) l s sep hs (by rw [List.length_take]; omega) (fun j u t hu ht => ?_) h0 (by omega) hn hl
      have hj : j < l.length := (List.getElem?_eq_some_iff.1 ht).1
      rw [List.length_map] at e2
      refine ⟨e2.2 j u (.d (.str t)) hu (by rw [List.getElem?_map, ht]; rfl), ?_⟩
      rw [Nat.zero_add, cell_of_heap e1, ← Array.getElem?_toList]
      rw [List.getElem?_take_of_lt hj] at hu
      exact hu
end Go.Proofs.YtckonoejmjblfaaGreatDoor.Ev
