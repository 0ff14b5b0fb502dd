/- Functions without a body: what the model's entries answer. -/
import Derived.Test.YtkklkkppedociaaGreatDoorEvM
import Derived.Lib.Bytealg
set_option linter.unusedVariables false
set_option linter.unusedSimpArgs false
namespace Go.Proofs.YtkklkkppedociaaGreatDoor.Ev
open Go Go.RowKit

def natC (k : Nat) : Caller := fun _ args _ gl => match k, args with
  | 0, [.w (.d (.str s)), .w (.d (.int .u8 c))] => some (V.int .i64 (Lib.indexByte s c.toNat.toUInt8), gl)
  | 1, [.w (.d (.str s)), .w (.d (.int .u8 c))] => some (V.int .i64 (Lib.countByte s c.toNat.toUInt8), gl)
  | _, _ => none
def natE : Nat → Array Value → Sem Value
  | 0 => Extern.BytealgIndexByte.indexByte
  | 1 => Extern.BytealgCount.count
  | _ => fun _ => stuck ""
theorem two_vals {Γ : Ctx} {B : Nat} {x y : C} {ro : Nat} {gl : List (List W)} {vals : List Value} (hI : Inv Γ B { sl := [x, y].map V.c, bx := [], tk := [], gl, ro } { tmps := vals.toArray, defers := [] }) : ∃ u v, vals = [u, v] ∧ RC Γ u x ∧ RC Γ v y := by
  have hs := hI.size
  simp at hs
  match vals, hs with
  | [u, v], _ => exact ⟨u, v, rfl, hI.slots 0 u _ rfl rfl, hI.slots 1 v _ rfl rfl⟩
theorem res_inv {Γ : Ctx} {B : Nat} {xs : List V} {ro : Nat} {gl : List (List W)} {a : Act} {y : V} {v : Value} (hI : Inv Γ B { sl := xs, bx := [], tk := [], gl, ro } a) (h : RV Γ v y) : Inv Γ B { sl := [y], bx := [], tk := [], gl, ro } { tmps := #[v], defers := [] } := by
  refine ⟨rfl, rfl, fun i u z hu hz => ?_, hI.len, hI.bl, hI.ng, hI.boxes, hI.toks, hI.globs, hI.fix, hI.ownlt, hI.base, hI.its⟩
  have hi : i = 0 := by
    have := (List.getElem?_eq_some_iff.1 hz).1
    simpa using this
  subst hi
  simp only [List.getElem?_cons_zero, Option.some.injEq] at hz
  subst hz
  have : u = v := by simpa using hu.symm
  subst this
  exact h
theorem nat_sound {P : Program} {f k : Nat} {fn : Func} (hfn : P.funcs[f]? = some fn) (hname : (fn.name == "runtime.NumGoroutine") = false) (hb : fn.body.isNone = true) (h0 : Extern.findNext fn = none) (h1 : Extern.find fn = some (natE k)) :
    Sound P (fun f' => if f' = f then natC k f' else fun _ _ _ => none) := by
  intro f' args ro gl r h
  simp only at h
  split at h
  rotate_left
  · cases h
  rename_i he
  subst he
  have run : ∀ (vals : List Value) (w : World) (v : Value), (natE k vals.toArray).run P w = .ok v w → (callFunc f' vals.toArray).run P w = .ok (.value v) w := by
    intro vals w v hv
    simp only [callFunc, Sem.run_bind, run_program, Result.andThen_ok, hfn]
    rw [if_neg (by simp [hname]), if_pos hb]
    simp only [Sem.run_bind, run_mark, Result.andThen_ok, h0, h1, hv]
    rfl
  unfold natC at h
  split at h
  · rename_i s c
    cases h
    refine ⟨.inr fun Γ vals hI => ?_, fun hl => ⟨rfl, hl⟩⟩
    obtain ⟨u, v, rfl, hu, hv⟩ := two_vals hI
    cases hu with
    | str s0 _ hs hm =>
      cases hv
      subst hs
      exact ⟨_, run _ _ _ (Lib.run_indexByteString s0 c Γ.w), res_inv hI (.int .i64 _)⟩
  · rename_i s c
    cases h
    refine ⟨.inr fun Γ vals hI => ?_, fun hl => ⟨rfl, hl⟩⟩
    obtain ⟨u, v, rfl, hu, hv⟩ := two_vals hI
    cases hu with
    | str s0 _ hs hm =>
      cases hv
      subst hs
      exact ⟨_, run _ _ _ (Lib.run_countString s0 c Γ.w), res_inv hI (.int .i64 _)⟩
  · cases h
/-! Functions that are told by what they answer, and shown to answer so later: the evaluator knows an answer just where it is true. -/
open Classical in
noncomputable def natS (P : Program) (spec : List C → List (List W) → Option (V × List (List W))) : Caller := fun f args ro gl => (spec args gl).bind fun r =>
  if (Entered P f args ro gl r ∨ Native P f args ro gl r) ∧ (ro ≤ gl.length → r.2.take ro = gl.take ro ∧ ro ≤ r.2.length) then some r else none
theorem natS_sound {P : Program} {f : Nat} {spec : List C → List (List W) → Option (V × List (List W))} : Sound P (fun f' => if f' = f then natS P spec f' else fun _ _ _ => none) := by
  intro f' args ro gl r h
  simp only at h
  split at h
  · unfold natS at h
    rw [Option.bind_eq_some_iff] at h
    obtain ⟨q, _, h⟩ := h
    split at h
    · rename_i hq
      cases h
      exact hq
    · cases h
  · cases h
theorem natS_go {P : Program} {f : Nat} {spec : List C → List (List W) → Option (V × List (List W))} {args : List C} {ro : Nat} {gl : List (List W)} {r : V × List (List W)} (hs : spec args gl = some r) (h : Entered P f args ro gl r ∨ Native P f args ro gl r)
    (hr : ro ≤ gl.length → r.2.take ro = gl.take ro ∧ ro ≤ r.2.length) : natS P spec f args ro gl = some r := by
  unfold natS
  rw [hs, Option.bind_some, if_pos ⟨h, hr⟩]
def joinB (sep : List UInt8) : List (List UInt8) → List UInt8
  | [] => []
  | [a] => a
  | a :: b :: r => a ++ (sep ++ joinB sep (b :: r))
def strsD : List (List D) → Option (List (List UInt8))
  | [] => some []
  | [.str s] :: r => (strsD r).map fun l => s :: l
  | _ :: _ => none
def strsW : List W → Option (List (List UInt8))
  | [] => some []
  | .d (.str s) :: r => (strsW r).map fun l => s :: l
  | _ :: _ => none
/-- strings.Join. -/
def specJ : List C → List (List W) → Option (V × List (List W))
  | [.w (.d (.sl xs)), .w (.d (.str sep))], gl => (strsD xs).map fun l => (V.str (joinB sep l), gl)
  | [.w (.gsl o off n _ 1), .w (.d (.str sep))], gl => (gl[o]?).bind fun cs => (cut cs off n).bind fun ws => (strsW ws).map fun l => (V.str (joinB sep l), gl)
  | _, _ => none
def rowLe : List Int → List Int → Bool
  | [], _ => true
  | _ :: _, [] => false
  | a :: r, b :: q => decide (a < b) || (decide (a = b) && rowLe r q)
def intsW : List W → Option (List Int)
  | [] => some []
  | .d (.int .i64 x) :: r => (intsW r).map fun l => x :: l
  | _ :: _ => none
/-- slices.SortFunc at rows of four numbers, under the order of rows. -/
def specS : List C → List (List W) → Option (V × List (List W))
  | [.w (.gsl o 0 n _ 4), .w (.fn _ [])], gl => (gl[o]?).bind fun cs => (cut cs 0 (n * 4)).bind fun ws => (intsW ws).map fun l =>
      (V.no, gl.set o ((((chunk 4 n l).mergeSort rowLe).flatten.map fun x => W.d (.int .i64 x)) ++ cs.drop (n * 4)))
  | _, _ => none
noncomputable def natX (P : Program) : Nat → Caller
  | 0 => natC 0
  | 1 => natC 1
  | 2 => natS P specJ
  | _ => natS P specS
end Go.Proofs.YtkklkkppedociaaGreatDoor.Ev
