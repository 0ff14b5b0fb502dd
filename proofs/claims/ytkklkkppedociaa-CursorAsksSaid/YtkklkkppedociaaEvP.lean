/- What a call comes to, with enough rounds; loops, arguments. -/
import Derived.Test.YtkklkkppedociaaFacts
set_option linter.unusedVariables false
namespace Go.Proofs.Ytkklkkppedociaa.Ev
open Go Go.RowKit

/-- From some number on. -/
def Evt (p : Nat → Prop) : Prop := ∃ n0, ∀ n, n0 ≤ n → p n
theorem Evt.imp {p q : Nat → Prop} (h : Evt p) (k : ∀ n, p n → q n) : Evt q := by
  obtain ⟨a, h⟩ := h
  exact ⟨a, fun n hn => k n (h n hn)⟩
theorem Evt.and {p q : Nat → Prop} (h : Evt p) (k : Evt q) : Evt fun n => p n ∧ q n := by
  obtain ⟨a, h⟩ := h
  obtain ⟨b, k⟩ := k
  exact ⟨max a b, fun n hn => ⟨h n (by omega), k n (by omega)⟩⟩
theorem Evt.of {p : Nat → Prop} (h : ∀ n, p n) : Evt p := ⟨0, fun n _ => h n⟩
theorem Evt.ge (m : Nat) : Evt fun n => m ≤ n := ⟨m, fun _ h => h⟩
theorem Evt.all {α : Type} {p : α → Nat → Prop} : ∀ (l : List α), (∀ x ∈ l, Evt (p x)) → Evt fun n => ∀ x ∈ l, p x n
  | [], _ => ⟨0, fun n _ x hx => by simp at hx⟩
  | a :: l, h => ((h a (by simp)).and (Evt.all l fun x hx => h x (by simp [hx]))).imp fun n ⟨h1, h2⟩ x hx => by
    rcases List.mem_cons.1 hx with rfl | hx
    · exact h1
    · exact h2 x hx

/-- The configuration of this program. -/
def cfRo : Nat → Bool := fun f => [11, 13, 14, 22, 23, 24, 25, 27, 29, 31, 33, 34, 35, 37, 39, 42, 43, 45, 50, 51].contains f
def cfEsc : Nat → Nat → Bool := fun f s => [(21, 5), (7, 14)].contains (f, s)
def cfFrz : Nat → Nat → Bool := fun f s => [].contains (f, s)
def cfLazy : Nat → Nat → Bool := fun f s => [(37, 3), (29, 3)].contains (f, s)
def cf : Cfg := { ro := cfRo, esc := cfEsc, frz := cfFrz, lazy := cfLazy, keep := fun f r => ([((41, 3), [0, 3, 4]), ((10, 5), [4, 5, 21, 22, 23]), ((11, 5), [0, 4, 5]), ((46, 4), [19]), ((45, 4), [0, 3]), ((50, 2), [0, 1, 5]), ((6, 4), [0, 1, 5]), ((6, 11), [1, 6, 7, 8]), ((7, 2), [1, 3])] : List ((Nat × Nat) × List Nat)).findSome? (fun p => if p.1 = (f, r) then some p.2 else none) |>.getD [], res := fun f => ([(41, [2]), (10, [2, 3]), (11, [2, 3]), (46, [2]), (45, [2]), (50, [4]), (6, [4]), (7, [2])] : List (Nat × List Nat)).findSome? (fun p => if p.1 = f then some p.2 else none) |>.getD [] }
@[simp] theorem cf_ro : cf.ro = cfRo := rfl
@[simp] theorem cf_esc : cf.esc = cfEsc := rfl
@[simp] theorem cf_frz : cf.frz = cfFrz := rfl
@[simp] theorem cf_lazy : cf.lazy = cfLazy := rfl
@[simp] theorem cfRo_3 : cfRo 3 = false := rfl
@[simp] theorem cfRo_4 : cfRo 4 = false := rfl
@[simp] theorem cfRo_5 : cfRo 5 = false := rfl
@[simp] theorem cfRo_6 : cfRo 6 = false := rfl
@[simp] theorem cfRo_7 : cfRo 7 = false := rfl
@[simp] theorem cfRo_8 : cfRo 8 = false := rfl
@[simp] theorem cfRo_9 : cfRo 9 = false := rfl
@[simp] theorem cfRo_10 : cfRo 10 = false := rfl
@[simp] theorem cfRo_11 : cfRo 11 = true := rfl
@[simp] theorem cfRo_12 : cfRo 12 = false := rfl
@[simp] theorem cfRo_13 : cfRo 13 = true := rfl
@[simp] theorem cfRo_14 : cfRo 14 = true := rfl
@[simp] theorem cfRo_15 : cfRo 15 = false := rfl
@[simp] theorem cfRo_16 : cfRo 16 = false := rfl
@[simp] theorem cfRo_17 : cfRo 17 = false := rfl
@[simp] theorem cfRo_18 : cfRo 18 = false := rfl
@[simp] theorem cfRo_19 : cfRo 19 = false := rfl
@[simp] theorem cfRo_20 : cfRo 20 = false := rfl
@[simp] theorem cfRo_21 : cfRo 21 = false := rfl
@[simp] theorem cfRo_22 : cfRo 22 = true := rfl
@[simp] theorem cfRo_23 : cfRo 23 = true := rfl
@[simp] theorem cfRo_24 : cfRo 24 = true := rfl
@[simp] theorem cfRo_25 : cfRo 25 = true := rfl
@[simp] theorem cfRo_26 : cfRo 26 = false := rfl
@[simp] theorem cfRo_27 : cfRo 27 = true := rfl
@[simp] theorem cfRo_28 : cfRo 28 = false := rfl
@[simp] theorem cfRo_29 : cfRo 29 = true := rfl
@[simp] theorem cfRo_30 : cfRo 30 = false := rfl
@[simp] theorem cfRo_31 : cfRo 31 = true := rfl
@[simp] theorem cfRo_32 : cfRo 32 = false := rfl
@[simp] theorem cfRo_33 : cfRo 33 = true := rfl
@[simp] theorem cfRo_34 : cfRo 34 = true := rfl
@[simp] theorem cfRo_35 : cfRo 35 = true := rfl
@[simp] theorem cfRo_36 : cfRo 36 = false := rfl
@[simp] theorem cfRo_37 : cfRo 37 = true := rfl
@[simp] theorem cfRo_38 : cfRo 38 = false := rfl
@[simp] theorem cfRo_39 : cfRo 39 = true := rfl
@[simp] theorem cfRo_40 : cfRo 40 = false := rfl
@[simp] theorem cfRo_41 : cfRo 41 = false := rfl
@[simp] theorem cfRo_42 : cfRo 42 = true := rfl
@[simp] theorem cfRo_43 : cfRo 43 = true := rfl
@[simp] theorem cfRo_44 : cfRo 44 = false := rfl
@[simp] theorem cfRo_45 : cfRo 45 = true := rfl
@[simp] theorem cfRo_46 : cfRo 46 = false := rfl
@[simp] theorem cfRo_47 : cfRo 47 = false := rfl
@[simp] theorem cfRo_48 : cfRo 48 = false := rfl
@[simp] theorem cfRo_49 : cfRo 49 = false := rfl
@[simp] theorem cfRo_50 : cfRo 50 = true := rfl
@[simp] theorem cfRo_51 : cfRo 51 = true := rfl
@[simp] theorem cfRo_52 : cfRo 52 = false := rfl
@[simp] theorem cfRo_53 : cfRo 53 = false := rfl
@[simp] theorem cfRo_54 : cfRo 54 = false := rfl
@[simp] theorem cfRo_55 : cfRo 55 = false := rfl
@[simp] theorem cfRo_56 : cfRo 56 = false := rfl
@[simp] theorem cfRo_57 : cfRo 57 = false := rfl
@[simp] theorem cfRo_58 : cfRo 58 = false := rfl
@[simp] theorem cfRo_59 : cfRo 59 = false := rfl
@[simp] theorem cfRo_60 : cfRo 60 = false := rfl
@[simp] theorem cfRo_61 : cfRo 61 = false := rfl
@[simp] theorem cfRo_62 : cfRo 62 = false := rfl
@[simp] theorem cfRo_63 : cfRo 63 = false := rfl
@[simp] theorem cfRo_64 : cfRo 64 = false := rfl
@[simp] theorem cfRo_65 : cfRo 65 = false := rfl
@[simp] theorem cfRo_66 : cfRo 66 = false := rfl
@[simp] theorem cfRo_67 : cfRo 67 = false := rfl
@[simp] theorem cfRo_68 : cfRo 68 = false := rfl
@[simp] theorem cfRo_69 : cfRo 69 = false := rfl
@[simp] theorem cfRo_70 : cfRo 70 = false := rfl
@[simp] theorem cfRo_71 : cfRo 71 = false := rfl
@[simp] theorem cfRo_72 : cfRo 72 = false := rfl
@[simp] theorem cfRo_73 : cfRo 73 = false := rfl
@[simp] theorem cfRo_74 : cfRo 74 = false := rfl
@[simp] theorem cfRo_75 : cfRo 75 = false := rfl
@[simp] theorem cfRo_76 : cfRo 76 = false := rfl
@[simp] theorem cfRo_77 : cfRo 77 = false := rfl
@[simp] theorem cfRo_78 : cfRo 78 = false := rfl
@[simp] theorem cfRo_79 : cfRo 79 = false := rfl
@[simp] theorem cfRo_80 : cfRo 80 = false := rfl
@[simp] theorem cfRo_81 : cfRo 81 = false := rfl
@[simp] theorem cfRo_82 : cfRo 82 = false := rfl
@[simp] theorem cfRo_83 : cfRo 83 = false := rfl
@[simp] theorem cfRo_84 : cfRo 84 = false := rfl
@[simp] theorem cfRo_85 : cfRo 85 = false := rfl
@[simp] theorem cfRo_86 : cfRo 86 = false := rfl
@[simp] theorem cfRo_87 : cfRo 87 = false := rfl
@[simp] theorem cfRo_88 : cfRo 88 = false := rfl
@[simp] theorem cfRo_89 : cfRo 89 = false := rfl
@[simp] theorem cfRo_90 : cfRo 90 = false := rfl
@[simp] theorem cfRo_91 : cfRo 91 = false := rfl
@[simp] theorem cfRo_92 : cfRo 92 = false := rfl
@[simp] theorem cfRo_93 : cfRo 93 = false := rfl
@[simp] theorem cfRo_94 : cfRo 94 = false := rfl
@[simp] theorem cfRo_95 : cfRo 95 = false := rfl
@[simp] theorem cfRo_96 : cfRo 96 = false := rfl
@[simp] theorem cfRo_97 : cfRo 97 = false := rfl
@[simp] theorem cfRo_98 : cfRo 98 = false := rfl
@[simp] theorem cfRo_99 : cfRo 99 = false := rfl
@[simp] theorem cfRo_100 : cfRo 100 = false := rfl
@[simp] theorem cfRo_101 : cfRo 101 = false := rfl
@[simp] theorem cfRo_102 : cfRo 102 = false := rfl
@[simp] theorem cfRo_103 : cfRo 103 = false := rfl
@[simp] theorem cfRo_104 : cfRo 104 = false := rfl
@[simp] theorem cfRo_105 : cfRo 105 = false := rfl
@[simp] theorem cfRo_106 : cfRo 106 = false := rfl
@[simp] theorem cfRo_107 : cfRo 107 = false := rfl
@[simp] theorem cfRo_108 : cfRo 108 = false := rfl
@[simp] theorem cfRo_109 : cfRo 109 = false := rfl
@[simp] theorem cfRo_110 : cfRo 110 = false := rfl
@[simp] theorem cfRo_111 : cfRo 111 = false := rfl
@[simp] theorem cfRo_112 : cfRo 112 = false := rfl
@[simp] theorem cfRo_113 : cfRo 113 = false := rfl
@[simp] theorem cfRo_114 : cfRo 114 = false := rfl
@[simp] theorem cfRo_115 : cfRo 115 = false := rfl
@[simp] theorem cfRo_116 : cfRo 116 = false := rfl
@[simp] theorem cfRo_117 : cfRo 117 = false := rfl
@[simp] theorem cfRo_118 : cfRo 118 = false := rfl
@[simp] theorem cfRo_119 : cfRo 119 = false := rfl
@[simp] theorem cfRo_120 : cfRo 120 = false := rfl
@[simp] theorem cfRo_121 : cfRo 121 = false := rfl
@[simp] theorem cfRo_122 : cfRo 122 = false := rfl
@[simp] theorem cfRo_123 : cfRo 123 = false := rfl
@[simp] theorem cfRo_124 : cfRo 124 = false := rfl
@[simp] theorem cfRo_125 : cfRo 125 = false := rfl
@[simp] theorem cfRo_126 : cfRo 126 = false := rfl
@[simp] theorem cfRo_127 : cfRo 127 = false := rfl
@[simp] theorem cfRo_128 : cfRo 128 = false := rfl
@[simp] theorem cfRo_129 : cfRo 129 = false := rfl
@[simp] theorem cfRo_130 : cfRo 130 = false := rfl
@[simp] theorem cfRo_131 : cfRo 131 = false := rfl
@[simp] theorem cfRo_132 : cfRo 132 = false := rfl
@[simp] theorem cfRo_133 : cfRo 133 = false := rfl
@[simp] theorem cfRo_134 : cfRo 134 = false := rfl
@[simp] theorem cfRo_135 : cfRo 135 = false := rfl
@[simp] theorem cfRo_151 : cfRo 151 = false := rfl
attribute [simp] cfEsc cfFrz cfLazy
def xt : Nat → Option Caller := fun _ => none
noncomputable abbrev ev : Nat → Caller := evF Try.prog cf xt

theorem evF_step {P : Program} {cfg : Cfg} {ext : Nat → Option Caller} {f n : Nat} {fn : Func} {args : List C} {ro : Bool} {gl : List (List W)} (hx : ext f = none) (hf : P.funcs[f]? = some fn) (hn : fnOk cfg f fn = true) :
    evF P cfg ext (n + 1) f args ro gl = bodyA P cfg f (evF P cfg ext n) n fn args ro gl := by
  simp only [evF, hx, hf, Option.bind_some]
  rw [if_pos hn]
/-- A call that shares nothing comes to r. -/
def Gives (f : Nat) (args : List C) (r : V) : Prop := Evt fun n => ∀ ro gl, ev n f args ro gl = some (r, gl)
/-- A call among what is shared. -/
def Does (f : Nat) (args : List C) (gl : List (List W)) (r : V) (gl' : List (List W)) : Prop := Evt fun n => ev n f args false gl = some (r, gl')
theorem Gives.intro {f : Nat} {fn : Func} {args : List C} {r : V} (hf : Try.prog.funcs[f]? = some fn) (hn : fnOk cf f fn = true)
    (h : Evt fun n => ∀ ro gl, bodyA Try.prog cf f (ev n) n fn args ro gl = some (r, gl)) : Gives f args r := by
  obtain ⟨a, h⟩ := h
  refine ⟨a + 1, fun n hn' ro gl => ?_⟩
  obtain ⟨m, rfl⟩ : ∃ m, n = m + 1 := ⟨n - 1, by omega⟩
  rw [ev, evF_step rfl hf hn]
  exact h m (by omega) ro gl
theorem Does.intro {f : Nat} {fn : Func} {args : List C} {r : V} {gl gl' : List (List W)} (hf : Try.prog.funcs[f]? = some fn) (hn : fnOk cf f fn = true)
    (h : Evt fun n => bodyA Try.prog cf f (ev n) n fn args false gl = some (r, gl')) : Does f args gl r gl' := by
  obtain ⟨a, h⟩ := h
  refine ⟨a + 1, fun n hn' => ?_⟩
  obtain ⟨m, rfl⟩ : ∃ m, n = m + 1 := ⟨n - 1, by omega⟩
  rw [ev, evF_step rfl hf hn]
  exact h m (by omega)
/-- A call that changes nothing of what is shared. -/
def Reads (f : Nat) (args : List C) (gl : List (List W)) (r : V) : Prop := Evt fun n => ∀ ro, ev n f args ro gl = some (r, gl)
theorem Reads.intro {f : Nat} {fn : Func} {args : List C} {gl : List (List W)} {r : V} (hf : Try.prog.funcs[f]? = some fn) (hn : fnOk cf f fn = true)
    (h : Evt fun n => ∀ ro, bodyA Try.prog cf f (ev n) n fn args ro gl = some (r, gl)) : Reads f args gl r := by
  obtain ⟨a, h⟩ := h
  refine ⟨a + 1, fun n hn' ro => ?_⟩
  obtain ⟨m, rfl⟩ : ∃ m, n = m + 1 := ⟨n - 1, by omega⟩
  rw [ev, evF_step rfl hf hn]
  exact h m (by omega) ro
theorem Reads.does {f : Nat} {args : List C} {gl : List (List W)} {r : V} (h : Reads f args gl r) : Does f args gl r gl := h.imp fun _ h => h _
theorem Gives.reads {f : Nat} {args : List C} {r : V} (h : Gives f args r) (gl : List (List W)) : Reads f args gl r := h.imp fun _ h ro => h ro _
theorem set_same {α : Type} {l : List α} {o : Nat} {x : α} (h : l[o]? = some x) : l.set o x = l := by
  apply List.ext_getElem?
  intro j
  rw [List.getElem?_set]
  by_cases hj : o = j
  · subst hj
    have hl : o < l.length := (List.getElem?_eq_some_iff.1 h).1
    rw [if_pos rfl, if_pos hl, h]
  · rw [if_neg hj]
theorem Gives.does {f : Nat} {args : List C} {r : V} (h : Gives f args r) (gl : List (List W)) : Does f args gl r gl := h.imp fun _ h => h _ _

theorem ext_sound : ∀ f g, xt f = some g → Sound Try.prog (fun f' => if f' = f then g f' else fun _ _ _ => none) := fun f g h => by cases h

/-- The loops of some code, outer ones first. -/
def loopsOf : Code → List Code
  | .seq a b => loopsOf a ++ loopsOf b
  | .cond _ a b => loopsOf a ++ loopsOf b
  | .block _ b => loopsOf b
  | .loop b => b :: loopsOf b
  | _ => []
def bodyOf (fn : Func) (k : Nat) : Code := ((fn.body.map loopsOf).getD [])[k]?.getD .skip
def hv (keep : List Nat) (r : Ex × St) : Ex × St := (r.1, r.2.hav keep)
theorem loop_step {f : St → Option (Ex × St)} {keep res : List Nat} {n : Nat} {s S : St} {Z : Option (Ex × St)} (h : (f (s.hav keep)).map (hv keep) = some (.normal, S)) (k : ∀ s', s'.hav keep = S → loopA f keep res n s' = Z) : loopA f keep res (n + 1) s = Z := by
  rw [Option.map_eq_some_iff] at h
  obtain ⟨⟨e, s1⟩, h1, h2⟩ := h
  simp only [hv, Prod.mk.injEq] at h2
  obtain ⟨rfl, h2⟩ := h2
  rw [← k s1 h2]
  simp only [loopA, iter, h1, Option.bind_some]
theorem loop_on {f : St → Option (Ex × St)} {keep : List Nat} {s S : St} (h : (f (s.hav keep)).map (hv keep) = some (.normal, S)) : ∃ s', s'.hav keep = S ∧ ∀ res n, loopA f keep res (n + 1) s = loopA f keep res n s' := by
  rw [Option.map_eq_some_iff] at h
  obtain ⟨⟨e, s1⟩, h1, h2⟩ := h
  simp only [hv, Prod.mk.injEq] at h2
  obtain ⟨rfl, h2⟩ := h2
  refine ⟨s1, h2, fun res n => ?_⟩
  simp only [loopA, iter, h1, Option.bind_some]
theorem loop_exit {f : St → Option (Ex × St)} {keep res : List Nat} {n i : Nat} {s S : St} (h : (f (s.hav keep)).map (hv keep) = some (.exit i, S)) : loopA f keep res (n + 1) s = some (.exit i, S) := by
  rw [Option.map_eq_some_iff] at h
  obtain ⟨⟨e, s1⟩, h1, h2⟩ := h
  simp only [hv, Prod.mk.injEq] at h2
  obtain ⟨rfl, h2⟩ := h2
  simp only [loopA, iter, h1, Option.bind_some, Option.map_some, exitHav, h2]
theorem loop_ret {f : St → Option (Ex × St)} {keep res : List Nat} {n : Nat} {s S : St} (h : (f (s.hav keep)).map (hv res) = some (.ret, S)) : loopA f keep res (n + 1) s = some (.ret, S) := by
  rw [Option.map_eq_some_iff] at h
  obtain ⟨⟨e, s1⟩, h1, h2⟩ := h
  simp only [hv, Prod.mk.injEq] at h2
  obtain ⟨rfl, h2⟩ := h2
  simp only [loopA, iter, h1, Option.bind_some, Option.map_some, exitHav, h2]
/-- A loop by a rule: S0 a state, R a what it comes to, m a measure. -/
theorem loop_by {σ : Type} {f : St → Option (Ex × St)} {keep res : List Nat} (S0 : σ → St) (P : σ → Prop) (m : σ → Nat) (R : σ → Ex × St)
    (round : ∀ a, P a → (∃ b, P b ∧ m b < m a ∧ (f (S0 a)).map (hv keep) = some (.normal, S0 b) ∧ R a = R b) ∨ (∃ i S, (f (S0 a)).map (hv keep) = some (.exit i, S) ∧ R a = (.exit i, S)) ∨ (∃ S, (f (S0 a)).map (hv res) = some (.ret, S) ∧ R a = (.ret, S))) :
    ∀ (n : Nat) (a : σ) (S : St), P a → m a < n → S.hav keep = S0 a → loopA f keep res n S = some (R a)
  | 0, a, S, _, hm, _ => absurd hm (by omega)
  | n + 1, a, S, hP, hm, hS => by
    rcases round a hP with ⟨b, hb, hlt, h, hR⟩ | ⟨i, T, h, hR⟩ | ⟨T, h, hR⟩
    · rw [← hS] at h
      obtain ⟨S', hS', e⟩ := loop_on h
      rw [e, hR]
      exact loop_by S0 P m R round n b S' hb (by omega) hS'
    · rw [hR]
      refine loop_exit ?_
      rw [hS]
      exact h
    · rw [hR]
      refine loop_ret ?_
      rw [hS]
      exact h
theorem iter_succ (f : St → Option (Ex × St)) (h : St → St) (n : Nat) (s : St) : iter f h (n + 1) s = (f (h s)).bind fun | (.normal, s') => iter f h n s' | r => some r := rfl

@[simp] theorem i64w (x : Int) (h : -9223372036854775808 ≤ x ∧ x ≤ 9223372036854775807) : IntKind.i64.wrap x = x := IntWalk.i64_in x h
@[simp] theorem u64w (x : Int) (h : 0 ≤ x ∧ x ≤ 18446744073709551615) : IntKind.u64.wrap x = x := by
  simp only [IntKind.wrap, IntKind.signed, IntKind.bits, Bool.false_and, Bool.false_eq_true, if_false]
  omega
@[simp] theorem u8w (x : Int) (h : 0 ≤ x ∧ x ≤ 255) : IntKind.u8.wrap x = x := by
  simp only [IntKind.wrap, IntKind.signed, IntKind.bits, Bool.false_and, Bool.false_eq_true, if_false]
  omega

@[simp] theorem tmod_nat (n : Nat) (k : Nat) : (n : Int).tmod (no_index (OfNat.ofNat k)) = (n : Int) % (OfNat.ofNat k) := Int.tmod_eq_emod_of_nonneg (by omega)
@[simp] theorem tdiv_nat (n : Nat) (k : Nat) : (n : Int).tdiv (no_index (OfNat.ofNat k)) = (n : Int) / (OfNat.ofNat k) := Int.tdiv_eq_ediv_of_nonneg (by omega)
/-- Closed cells. -/
@[simp] theorem closes_map {α : Type} (f : α → D) (l : List α) : closes (l.map fun x => W.d (f x)) = some (l.map f) := by
  induction l with
  | nil => rfl
  | cons a l ih => simp only [List.map_cons, closes, W.close, Option.bind_some, ih, Option.map_some]
@[simp] theorem hav_d (k : List Nat) : W.hav k ∘ W.d = W.d := rfl
@[simp] theorem hav_df {α : Type} (k : List Nat) (f : α → D) : (W.hav k ∘ fun x => W.d (f x)) = fun x => W.d (f x) := rfl
@[simp] theorem d_df {α : Type} (f : α → D) : (W.d ∘ fun x => f x) = fun x => W.d (f x) := rfl
@[simp] theorem drop_mid {α β : Type} (f : α → β) (p : List α) (x : β) (r : List β) : List.drop (p.length + 1) (p.map f ++ x :: r) = r := by
  rw [List.drop_append]
  simp
@[simp] theorem take_all {α β : Type} (f : α → β) (l : List α) : List.take l.length (l.map f) = l.map f := List.take_of_length_le (by simp)
/-- A byte, as data. -/
abbrev u8D (b : UInt8) : D := .int .u8 b.toNat
@[simp] theorem bytesOf_nil : bytesOf [] = some [] := rfl
@[simp] theorem bytesOf_cons (b : UInt8) (l : List (List D)) : bytesOf ([D.int .u8 b.toNat] :: l) = (bytesOf l).map (b :: ·) := by
  simp only [bytesOf, byteOf]
  rw [if_pos (by have := b.toNat_lt; omega)]
  cases bytesOf l <;> simp
@[simp] theorem bytesOf_u8 (l : List UInt8) : bytesOf (l.map fun x => [D.int .u8 x.toNat]) = some l := by
  induction l with
  | nil => rfl
  | cons a l ih => rw [List.map_cons, bytesOf_cons, ih]; rfl
@[simp] theorem bytesOf_comp (l : List UInt8) : bytesOf (l.map ((fun d => [d]) ∘ u8D)) = some l := bytesOf_u8 l
@[simp] theorem bytesOf_map (l : List UInt8) : bytesOf (l.map byteD) = some l := bytesOf_u8 l

abbrev I (n : Int) : C := .w (.d (.int .i64 n))
abbrev B (b : Bool) : C := .w (.d (.bool b))
abbrev T (s : List UInt8) : C := .w (.d (.str s))
abbrev L (xs : List (List D)) : C := .w (.d (.sl xs))

theorem arg_int {P : Program} {K t : Nat} {k : IntKind} {c : C} (hu : P.underlying t = some (.int k)) (h : ArgOf P (K + 1) t c) : ∃ x, c = .w (.d (.int k x)) ∧ (Lit.int k x).wf = true := by
  obtain ⟨ds, h1, h2⟩ := h
  simp only [Shape, hu] at h1
  obtain ⟨x, rfl, hx⟩ := h1
  rw [isAgg_of hu] at h2
  rcases h2 with ⟨h, _⟩ | ⟨_, d, h, rfl⟩
  · cases h
  · cases h; exact ⟨x, rfl, hx⟩
theorem arg_bool {P : Program} {K t : Nat} {c : C} (hu : P.underlying t = some .bool) (h : ArgOf P (K + 1) t c) : ∃ x, c = .w (.d (.bool x)) := by
  obtain ⟨ds, h1, h2⟩ := h
  simp only [Shape, hu] at h1
  obtain ⟨x, rfl⟩ := h1
  rw [isAgg_of hu] at h2
  rcases h2 with ⟨h, _⟩ | ⟨_, d, h, rfl⟩
  · cases h
  · cases h; exact ⟨x, rfl⟩
theorem arg_str {P : Program} {K t : Nat} {c : C} (hu : P.underlying t = some .string) (h : ArgOf P (K + 1) t c) : ∃ x : List UInt8, c = .w (.d (.str x)) ∧ x.length ≤ maxLen := by
  obtain ⟨ds, h1, h2⟩ := h
  simp only [Shape, hu] at h1
  obtain ⟨x, rfl, hx⟩ := h1
  rw [isAgg_of hu] at h2
  rcases h2 with ⟨h, _⟩ | ⟨_, d, h, rfl⟩
  · cases h
  · cases h; exact ⟨x, rfl, hx⟩
theorem arg_slice {P : Program} {K t e : Nat} {c : C} (hu : P.underlying t = some (.slice e)) (h : ArgOf P (K + 1) t c) : ∃ xs : List (List D), c = .w (.d (.sl xs)) ∧ xs.length ≤ maxLen ∧ ∀ x ∈ xs, Shape P K e x := by
  obtain ⟨ds, h1, h2⟩ := h
  simp only [Shape, hu] at h1
  obtain ⟨x, rfl, hx, hx'⟩ := h1
  rw [isAgg_of hu] at h2
  rcases h2 with ⟨h, _⟩ | ⟨_, d, h, rfl⟩
  · cases h
  · cases h; exact ⟨x, rfl, hx, hx'⟩
theorem uncons' {α β : Type} {R : α → β → Prop} {a : α} {l : List α} {c : List β} (h : All2 R (a :: l) c) : ∃ b r, c = b :: r ∧ R a b ∧ All2 R l r := by
  cases c with
  | nil => exact absurd h.1 (by simp)
  | cons b r => exact ⟨b, r, rfl, h.2 0 a b rfl rfl, by have := h.1; simpa using this, fun i x y hx hy => h.2 (i + 1) x y (by simpa using hx) (by simpa using hy)⟩
theorem nil' {α β : Type} {R : α → β → Prop} {c : List β} (h : All2 R [] c) : c = [] := by
  cases c with
  | nil => rfl
  | cons b r => exact absurd h.1 (by simp)
theorem i64_wf {x : Int} (h : (Lit.int .i64 x).wf = true) : -9223372036854775808 ≤ x ∧ x ≤ 9223372036854775807 := by
  simp [Lit.wf, IntKind.min, IntKind.max, IntKind.signed, IntKind.bits] at h
  omega
theorem Gives.goes {f : Nat} {args : List C} {r : V} (h : Gives f args r) : ∃ n gl, evF Try.prog cf xt n f args false [] = some (r, gl) := by
  obtain ⟨n, h⟩ := h
  exact ⟨n, [], h n (Nat.le_refl _) false []⟩
theorem Does.goes {f : Nat} {args : List C} {r : V} {gl : List (List W)} (h : Does f args [] r gl) : ∃ n gl, evF Try.prog cf xt n f args false [] = some (r, gl) := by
  obtain ⟨n, h⟩ := h
  exact ⟨n, gl, h n (Nat.le_refl _)⟩
/-- A loop, with its code out of simp's sight. -/
def loopC (P : Program) (cfg : Cfg) (fid : Nat) (call : Caller) (n : Nat) (b : Code) (s : St) : Option (Ex × St) :=
  loopA (evC P cfg fid call n b) (cfg.keep fid (firstId b)) (cfg.res fid) n s
@[congr] theorem loopC_congr {P : Program} {cfg : Cfg} {fid : Nat} {call : Caller} {n : Nat} {b : Code} {s s' : St} (h : s = s') : loopC P cfg fid call n b s = loopC P cfg fid call n b s' := by rw [h]
section
variable (P : Program) (cfg : Cfg) (fid : Nat) (call : Caller) (n : Nat) (s : St)
@[simp] theorem evC_skip : evC P cfg fid call n .skip s = some (.normal, s) := rfl
@[simp] theorem evC_seq (a b : Code) : evC P cfg fid call n (.seq a b) s = (evC P cfg fid call n a s).bind fun
    | (.normal, s') => evC P cfg fid call n b s'
    | r => some r := rfl
@[simp] theorem evC_cond (c : Operand) (a b : Code) : evC P cfg fid call n (.cond c a b) s = (s.ev c).bind fun
    | .c (.w (.d (.bool q))) => if q then evC P cfg fid call n a s else evC P cfg fid call n b s
    | _ => none := rfl
@[simp] theorem evC_block (id : Nat) (b : Code) : evC P cfg fid call n (.block id b) s = (evC P cfg fid call n b s).bind fun
    | (.exit i, s') => if i = id then some (.normal, s') else some (.exit i, s')
    | r => some r := by
  simp only [evC]
  cases evC P cfg fid call n b s with
  | none => rfl
  | some r =>
    rcases r with ⟨e, s'⟩
    cases e <;> simp
    split <;> simp [*]
@[simp] theorem evC_exit (id : Nat) : evC P cfg fid call n (.exit id) s = some (.exit id, s) := rfl
@[simp] theorem evC_ret : evC P cfg fid call n .ret s = some (.ret, s) := rfl
@[simp] theorem evC_loop (b : Code) : evC P cfg fid call n (.loop b) s = loopC P cfg fid call n b s := rfl
end
@[simp] theorem beq_int (a b : Int) : (a == b) = decide (a = b) := by rw [Bool.eq_iff_iff]; simp
@[simp] theorem beq_str (a b : List UInt8) : (a == b) = decide (a = b) := by rw [Bool.eq_iff_iff]; simp
@[simp] theorem size_mk (a : Array UInt8) : ByteArray.size ⟨a⟩ = a.size := rfl
@[simp] theorem maxLen_eq : maxLen = 9223372036854775807 := rfl
theorem bind_go {α β : Type} {x : Option α} {v : α} {k : α → Option β} {r : Option β} (h : x = some v) (g : k v = r) : x.bind k = r := by rw [h]; exact g
end Go.Proofs.Ytkklkkppedociaa.Ev
