/- A law's row that lists package-level variables: the frame. -/
import Derived.Test.YtkklkkppedociaaGreatDoorEvM
import Derived.Handed
import Derived.ProofKit
import Derived.LaidMore
set_option linter.unusedVariables false
set_option maxRecDepth 100000
namespace Go.Proofs.YtkklkkppedociaaGreatDoor.Ev
open Go Go.RowKit Go.ChangeShapes Go.WideShapes Go.ChangeAt

theorem lifted_and {C : Checked} {cfg : Cfg} {ext : Nat → Option Caller} {f K : Nat} {fn : Func} {spec : ChangeSpec} {dom : List PathCond} {X : World → Array Value → Prop} (hX : ∀ (w w' : World) (args : Array Value), w.heap = w'.heap → X w args → X w' args) (hm : C.prog.follows .mixedOrders = true)
    (hx : ∀ f g, ext f = some g → Sound C.prog (fun f' => if f' = f then g f' else fun _ _ _ => none)) (own : ownKnob C.prog.godebug = none) (hl : laidOutB C.prog = true) (hfn : C.prog.funcs[f]? = some fn) (hxf : ext f = none) (hin : C.prog.inits.idxOf? f = none)
    (hvars : spec.vars = []) (hspec : ∀ (H : Type) (ds : List (DataW H)), ds.length = fn.params.size → (spec.fn H ds).results = [.lit (.bool true)] ∧ (spec.fn H ds).args = ds ∧ (spec.fn H ds).vars = [])
    {tb : TypeId} (hres : fn.resultTypes = #[tb]) (htb : C.prog.underlying tb = some .bool) (hread : (fn.params.toList.all fun t => C.prog.readableRec t && decide (t < C.prog.types.size)) = true) (hplain : (fn.params.toList.all fun t => plainT C.prog K t) = true)
    (hev : ∀ args, All2 (ArgOf C.prog K) fn.params.toList args → ∃ n gl, evF C.prog cfg ext n f args 0 [] = some (V.bool true, gl))
    (os : Os) (started : os.Started) (H : Type) (enc : TypeId × Value → H)
    (hwit : ∃ (w : World) (tape : Tape) (i : Input), w.os = os ∧ (w.forCall tape i).Shaped C.prog ∧ i.vars = [] ∧ Input.okWide C.prog (w.forCall tape i) .any w.heap.size f i ∧
      ((spec.pre enc C.prog fn dom false (w.forCall tape i).memory i.args ∧ X (w.forCall tape i).memory i.args) ∧ sizedMet enc C.prog fn (OpenSpec.ofChange spec) false (w.forCall tape i).memory i.args) ∧ ({} : Assume).holds C.prog (lone (Frame.enter C.prog f i.args .normal) [] (w.forCall tape i))) :
    ReturnsInHanded {} C os f .any (fun w args => (spec.pre enc C.prog fn dom false w args ∧ X w args) ∧ sizedMet enc C.prog fn (OpenSpec.ofChange spec) false w args) (spec.post enc C.prog fn false true false false) := by
  refine returnsInHanded_of_change_and (C := C) (X := X) hX own started hin hfn hwit ?_
  intro W base args ds gs before hval hW hcnd _ _ _
  have hW' := hW
  obtain ⟨p, q, hA, hV, rfl, hfz, hnd⟩ := hW
  rw [hvars] at hV
  obtain ⟨rfl, rfl⟩ := trodVars_none hV
  obtain ⟨cs, k1, k2⟩ := args_of hA hplain (base := base) (fun j t v ht hv => hval j t v (by simpa using ht) (by simpa using hv))
  obtain ⟨n, gl, he⟩ := hev cs k1
  have hc := law_calls hm hx hxf k2 he
  have hargs : args.toList.toArray = args := by simp
  rw [hargs] at hc
  refine hc.mono ?_
  rintro e w' ⟨Γ', v, rfl, hb, hv⟩
  cases hv
  have hlen : ds.length = fn.params.size := by
    have : ∀ {ts : List TypeId} {vs : List Value} {ds : List (DataW H)} {ps : List MemPlace}, DataW.TrodAll enc C.prog W 0 (fun _ => true) true ts vs ds ps → ds.length = ts.length := by
      intro ts
      induction ts with
      | nil => intro vs ds ps h; obtain ⟨_, rfl, _⟩ := trodAll_nil h; rfl
      | cons t ts ih => intro vs ds ps h; obtain ⟨_, _, _, _, _, _, _, rfl, _, _, h2⟩ := trodAll_cons h; simp [ih h2]
    simpa using this hA
  obtain ⟨s1, s2, s3⟩ := hspec H ds hlen
  refine ⟨_, rfl, ds, [], _, [], p, [], hW', ?_, ?_, ?_, hb.frame _, fun h => by cases h⟩
  · rw [List.append_nil, s1, hres]
    exact trodAll_mk1 (shut_bool htb _)
  · rw [List.append_nil, s2]
    exact trodAll_below hl hb hread hA
  · rw [List.append_nil, s3, hvars]
    rfl
end Go.Proofs.YtkklkkppedociaaGreatDoor.Ev
