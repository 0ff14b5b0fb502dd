/- Calls with one shared object, whatever else is shared. -/
import Derived.Test.YtckonoejmjblfaaGreatEvO
set_option linter.unusedVariables false
set_option linter.unusedSimpArgs false
namespace Go.Proofs.YtckonoejmjblfaaGreat.Ev
open Go Go.RowKit

/-- What holds of a body holds of its call. -/
theorem Evt.up {f : Nat} {fn : Func} (p : Nat → (List C → Nat → List (List W) → Option (V × List (List W))) → Prop) (hf : Tryz.prog.funcs[f]? = some fn) (hn : (fnOk cf f fn && (xtL.lookup f).isNone) = true)
    (h : Evt fun n => p n (fun args ro gl => bodyA Tryz.prog cf f (ev n) n fn args ro gl)) (mono : ∀ n g, p n g → p (n + 1) g) : Evt fun n => p n (fun args ro gl => ev n f args ro gl) := by
  obtain ⟨a, h⟩ := h
  refine ⟨a + 1, fun n hn' => ?_⟩
  obtain ⟨m, rfl⟩ : ∃ m, n = m + 1 := ⟨n - 1, by omega⟩
  simp only [Bool.and_eq_true] at hn
  have e : (fun args ro gl => ev (m + 1) f args ro gl) = fun args ro gl => bodyA Tryz.prog cf f (ev m) m fn args ro gl := by
    funext args ro gl
    rw [ev, evF_step (by simp only [xt, Option.map_eq_none_iff]; simpa using hn.2) hf hn.1]
  rw [e]
  exact mono m _ (h m (by omega))
/-- A call that only reads the object o, which holds cs. -/
def ReadsU (f : Nat) (args : Nat → List C) (cs : List W) (r : V) : Prop := Evt fun n => ∀ gl o ro, (gl : List (List W))[o]? = some cs → ev n f (args o) ro gl = some (r, gl)
/-- A call that writes the object o, which held cs and then holds cs'. -/
def DoesU (f : Nat) (args : Nat → List C) (cs : List W) (r : V) (cs' : List W) : Prop := Evt fun n => ∀ gl o ro, (gl : List (List W))[o]? = some cs → ro ≤ o → ev n f (args o) ro gl = some (r, gl.set o cs')
theorem ReadsU.intro {f : Nat} {fn : Func} {args : Nat → List C} {cs : List W} {r : V} (hf : Tryz.prog.funcs[f]? = some fn) (hn : (fnOk cf f fn && (xtL.lookup f).isNone) = true)
    (h : Evt fun n => ∀ gl o ro, (gl : List (List W))[o]? = some cs → bodyA Tryz.prog cf f (ev n) n fn (args o) ro gl = some (r, gl)) : ReadsU f args cs r :=
  Evt.up (fun _ g => ∀ gl o ro, (gl : List (List W))[o]? = some cs → g (args o) ro gl = some (r, gl)) hf hn h fun _ _ h => h
theorem DoesU.intro {f : Nat} {fn : Func} {args : Nat → List C} {cs cs' : List W} {r : V} (hf : Tryz.prog.funcs[f]? = some fn) (hn : (fnOk cf f fn && (xtL.lookup f).isNone) = true)
    (h : Evt fun n => ∀ gl o ro, (gl : List (List W))[o]? = some cs → ro ≤ o → bodyA Tryz.prog cf f (ev n) n fn (args o) ro gl = some (r, gl.set o cs')) : DoesU f args cs r cs' :=
  Evt.up (fun _ g => ∀ gl o ro, (gl : List (List W))[o]? = some cs → ro ≤ o → g (args o) ro gl = some (r, gl.set o cs')) hf hn h fun _ _ h => h
theorem ReadsU.does {f : Nat} {args : Nat → List C} {cs : List W} {r : V} (h : ReadsU f args cs r) : DoesU f args cs r cs := h.imp fun n h gl o ro hg hro => by rw [set_same hg]; exact h gl o ro hg
/-- A call that changes nothing, wherever G holds. -/
def ReadsG (G : List (List W) → W → Prop) (f : Nat) (args : W → List C) (r : V) : Prop := Evt fun n => ∀ gl x, G gl x → ∀ ro, ev n f (args x) ro gl = some (r, gl)
theorem ReadsG.intro {G : List (List W) → W → Prop} {f : Nat} {fn : Func} {args : W → List C} {r : V} (hf : Tryz.prog.funcs[f]? = some fn) (hn : (fnOk cf f fn && (xtL.lookup f).isNone) = true)
    (h : Evt fun n => ∀ gl x, G gl x → ∀ ro, bodyA Tryz.prog cf f (ev n) n fn (args x) ro gl = some (r, gl)) : ReadsG G f args r :=
  Evt.up (fun _ g => ∀ gl x, G gl x → ∀ ro, g (args x) ro gl = some (r, gl)) hf hn h fun _ _ h => h
theorem ReadsG.reads {G : List (List W) → W → Prop} {f : Nat} {args : W → List C} {r : V} (h : ReadsG G f args r) {gl : List (List W)} {x : W} (hg : G gl x) : Reads f (args x) gl r := h.imp fun _ h => h gl x hg
/-- Where the object holds cs. -/
def At (cs : List W) (gl : List (List W)) (x : W) : Prop := ∃ o, x = .glo o 0 ∧ gl[o]? = some cs
theorem ReadsG.u {cs : List W} {f : Nat} {args : W → List C} {r : V} (h : ReadsG (At cs) f args r) : ReadsU f (fun o => args (.glo o 0)) cs r := h.imp fun _ h gl o ro hg => h gl _ ⟨o, rfl, hg⟩ ro
theorem get_set {α : Type} {l : List α} {o : Nat} {a : α} (h : l[o]? = some a) (x : α) : (l.set o x)[o]? = some x := by
  have := (List.getElem?_eq_some_iff.1 h).1
  rw [List.getElem?_set, if_pos rfl, if_pos this]
/-- An object that has just been made. -/
theorem get_last {α : Type} (l : List α) (x : α) : (l ++ [x])[l.length]? = some x := by simp
@[simp] theorem set_last {α : Type} (l : List α) (x y : α) : (l ++ [x]).set l.length y = l ++ [y] := by simp
end Go.Proofs.YtckonoejmjblfaaGreat.Ev
