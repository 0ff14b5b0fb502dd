/- Functions without a body: what the model's entries answer. -/
import Derived.Test.YtckonoejmjblfaaGreatEvM
import Derived.Lib.Bytealg
set_option linter.unusedVariables false
set_option linter.unusedSimpArgs false
namespace Go.Proofs.YtckonoejmjblfaaGreat.Ev
open Go Go.RowKit

def natC (k : Nat) : Caller := fun _ args _ gl => match k, args with
  | 0, [.w (.d (.str s)), .w (.d (.int .u8 c))] => some (V.int .i64 (Lib.indexByte s c.toNat.toUInt8), gl)
  | 1, [.w (.d (.str s)), .w (.d (.int .u8 c))] => some (V.int .i64 (Lib.countByte s c.toNat.toUInt8), gl)
  | _, _ => none
def natE : Nat → Array Value → Sem Value
  | 0 => Extern.BytealgIndexByte.indexByte
  | 1 => Extern.BytealgCount.count
  | _ => fun _ => stuck ""
theorem two_vals {Γ : Ctx} {B : Nat} {x y : C} {ro : Nat} {gl : List (List W)} {vals : List Value} (hI : Inv Γ B { sl := [x, y].map V.c, bx := [], tk := [], gl, ro } { tmps := vals.toArray, defers := [] }) : ∃ u v, vals = [u, v] ∧ RC Γ u x ∧ RC Γ v y := by
  have hs := hI.size
  simp at hs
  match vals, hs with
  | [u, v], _ => exact ⟨u, v, rfl, hI.slots 0 u _ rfl rfl, hI.slots 1 v _ rfl rfl⟩
theorem res_inv {Γ : Ctx} {B : Nat} {xs : List V} {ro : Nat} {gl : List (List W)} {a : Act} {y : V} {v : Value} (hI : Inv Γ B { sl := xs, bx := [], tk := [], gl, ro } a) (h : RV Γ v y) : Inv Γ B { sl := [y], bx := [], tk := [], gl, ro } { tmps := #[v], defers := [] } := by
  refine ⟨Marks.nil, rfl, fun i u z hu hz => ?_, hI.len, hI.bl, hI.ng, hI.boxes, hI.toks, hI.globs, hI.fix, hI.ownlt, hI.base, hI.its⟩
  have hi : i = 0 := by
    have := (List.getElem?_eq_some_iff.1 hz).1
    simpa using this
  subst hi
  simp only [List.getElem?_cons_zero, Option.some.injEq] at hz
  subst hz
  have : u = v := by simpa using hu.symm
  subst this
  exact h
theorem nat_sound {ql : Prop} {P : Program} {f k : Nat} {fn : Func} (hfn : P.funcs[f]? = some fn) (hname : (fn.name == "runtime.NumGoroutine") = false) (hb : fn.body.isNone = true) (h0 : Extern.findNext fn = none) (h1 : Extern.find fn = some (natE k)) :
    Sound P ql (fun f' => if f' = f then natC k f' else fun _ _ _ => none) := by
  intro f' args ro gl r h
  simp only at h
  split at h
  rotate_left
  · cases h
  rename_i he
  subst he
  have run : ∀ (vals : List Value) (w : World) (v : Value), (natE k vals.toArray).run P w = .ok v w → (callFunc f' vals.toArray).run P w = .ok (.value v) w := by
    intro vals w v hv
    simp only [callFunc, Sem.run_bind, run_program, Result.andThen_ok, hfn]
    rw [if_neg (by simp [hname]), if_pos hb]
    simp only [Sem.run_bind, run_mark, Result.andThen_ok, h0, h1, hv]
    rfl
  unfold natC at h
  split at h
  · rename_i s c
    cases h
    refine ⟨.inr fun Γ vals hI => ?_, fun hl => ⟨rfl, hl⟩⟩
    obtain ⟨u, v, rfl, hu, hv⟩ := two_vals hI
    cases hu with
    | str s0 _ hs hm =>
      cases hv
      subst hs
      exact ⟨_, run _ _ _ (Lib.run_indexByteString s0 c Γ.w), res_inv hI (.int .i64 _)⟩
  · rename_i s c
    cases h
    refine ⟨.inr fun Γ vals hI => ?_, fun hl => ⟨rfl, hl⟩⟩
    obtain ⟨u, v, rfl, hu, hv⟩ := two_vals hI
    cases hu with
    | str s0 _ hs hm =>
      cases hv
      subst hs
      exact ⟨_, run _ _ _ (Lib.run_countString s0 c Γ.w), res_inv hI (.int .i64 _)⟩
  · cases h
/-! Functions that are told by what they answer, and shown to answer so later: the evaluator knows an answer just where it is true. -/
open Classical in
noncomputable def natS (P : Program) (spec : List C → List (List W) → Option (V × List (List W))) : Caller := fun f args ro gl => (spec args gl).bind fun r =>
  if (Entered P False f args ro gl r ∨ Native P f args ro gl r) ∧ (ro ≤ gl.length → r.2.take ro = gl.take ro ∧ ro ≤ r.2.length) then some r else none
theorem natS_sound {P : Program} {f : Nat} {spec : List C → List (List W) → Option (V × List (List W))} : Sound P False (fun f' => if f' = f then natS P spec f' else fun _ _ _ => none) := by
  intro f' args ro gl r h
  simp only at h
  split at h
  · unfold natS at h
    rw [Option.bind_eq_some_iff] at h
    obtain ⟨q, _, h⟩ := h
    split at h
    · rename_i hq
      cases h
      exact hq
    · cases h
  · cases h
theorem natS_go {P : Program} {f : Nat} {spec : List C → List (List W) → Option (V × List (List W))} {args : List C} {ro : Nat} {gl : List (List W)} {r : V × List (List W)} (hs : spec args gl = some r) (h : Entered P False f args ro gl r ∨ Native P f args ro gl r)
    (hr : ro ≤ gl.length → r.2.take ro = gl.take ro ∧ ro ≤ r.2.length) : natS P spec f args ro gl = some r := by
  unfold natS
  rw [hs, Option.bind_some, if_pos ⟨h, hr⟩]
def joinB (sep : List UInt8) : List (List UInt8) → List UInt8
  | [] => []
  | [a] => a
  | a :: b :: r => a ++ (sep ++ joinB sep (b :: r))
def strsD : List (List D) → Option (List (List UInt8))
  | [] => some []
  | [.str s] :: r => (strsD r).map fun l => s :: l
  | _ :: _ => none
def strsW : List W → Option (List (List UInt8))
  | [] => some []
  | .d (.str s) :: r => (strsW r).map fun l => s :: l
  | _ :: _ => none
/-- strings.Join. -/
def specJ : List C → List (List W) → Option (V × List (List W))
  | [.w (.d (.sl xs)), .w (.d (.str sep))], gl => (strsD xs).map fun l => (V.str (joinB sep l), gl)
  | [.w (.gsl o off n _ 1), .w (.d (.str sep))], gl => (gl[o]?).bind fun cs => (cut cs off n).bind fun ws => (strsW ws).map fun l => (V.str (joinB sep l), gl)
  | _, _ => none
/-- Four numbers. -/
structure Q4 where
  a : Int
  b : Int
  c : Int
  d : Int
deriving DecidableEq, Inhabited
def Q4.l (q : Q4) : List Int := [q.a, q.b, q.c, q.d]
def Q4.w (q : Q4) : C := .agg [.d (.int .i64 q.a), .d (.int .i64 q.b), .d (.int .i64 q.c), .d (.int .i64 q.d)]
def Q4.ws (q : Q4) : List W := [.d (.int .i64 q.a), .d (.int .i64 q.b), .d (.int .i64 q.c), .d (.int .i64 q.d)]
def cmpL : List Int → List Int → Int
  | [], [] => 0
  | [], _ :: _ => -1
  | _ :: _, [] => 1
  | a :: r, b :: q => if a < b then -1 else if b < a then 1 else cmpL r q
def cellsQ (l : List Q4) : List W := l.flatMap Q4.ws
def q4W : List W → Option (List Q4)
  | [] => some []
  | .d (.int .i64 a) :: .d (.int .i64 b) :: .d (.int .i64 c) :: .d (.int .i64 d) :: r => (q4W r).map fun l => ⟨a, b, c, d⟩ :: l
  | _ => none
theorem q4W_cells : ∀ l : List Q4, q4W (cellsQ l) = some l
  | [] => rfl
  | q :: l => by
    have : cellsQ (q :: l) = .d (.int .i64 q.a) :: .d (.int .i64 q.b) :: .d (.int .i64 q.c) :: .d (.int .i64 q.d) :: cellsQ l := rfl
    rw [this, q4W, q4W_cells l]
    rfl
theorem cellsQ_len (l : List Q4) : (cellsQ l).length = l.length * 4 := by
  induction l with
  | nil => rfl
  | cons q l ih =>
    have : cellsQ (q :: l) = q.ws ++ cellsQ l := rfl
    rw [this, List.length_append, ih, List.length_cons]
    simp only [Q4.ws, List.length_cons, List.length_nil]
    omega
def sortQ (l : List Q4) : List Q4 := l.mergeSort fun x y => !decide (cmpL y.l x.l < 0)
/-- slices.SortFunc at rows of four numbers, under the order of rows. -/
def specS : List C → List (List W) → Option (V × List (List W))
  | [.w (.gsl o 0 n _ 4), .w (.fn _ [])], gl => (gl[o]?).bind fun cs => (q4W (cs.take (n * 4))).map fun l => (V.no, gl.set o (cellsQ (sortQ l) ++ cs.drop (n * 4)))
  | _, _ => none
noncomputable def natX (P : Program) : Nat → Caller
  | 0 => natC 0
  | 1 => natC 1
  | 2 => natS P specJ
  | _ => natS P specS
end Go.Proofs.YtckonoejmjblfaaGreat.Ev
