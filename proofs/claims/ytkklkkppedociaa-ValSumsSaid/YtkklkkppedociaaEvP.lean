/- What a call comes to, with enough rounds; loops, arguments. -/
import Derived.Test.YtkklkkppedociaaFacts
set_option linter.unusedVariables false
namespace Go.Proofs.Ytkklkkppedociaa.Ev
open Go Go.RowKit

/-- From some number on. -/
def Evt (p : Nat → Prop) : Prop := ∃ n0, ∀ n, n0 ≤ n → p n
theorem Evt.imp {p q : Nat → Prop} (h : Evt p) (k : ∀ n, p n → q n) : Evt q := by
  obtain ⟨a, h⟩ := h
  exact ⟨a, fun n hn => k n (h n hn)⟩
theorem Evt.and {p q : Nat → Prop} (h : Evt p) (k : Evt q) : Evt fun n => p n ∧ q n := by
  obtain ⟨a, h⟩ := h
  obtain ⟨b, k⟩ := k
  exact ⟨max a b, fun n hn => ⟨h n (by omega), k n (by omega)⟩⟩
theorem Evt.of {p : Nat → Prop} (h : ∀ n, p n) : Evt p := ⟨0, fun n _ => h n⟩
theorem Evt.ge (m : Nat) : Evt fun n => m ≤ n := ⟨m, fun _ h => h⟩
theorem Evt.all {α : Type} {p : α → Nat → Prop} : ∀ (l : List α), (∀ x ∈ l, Evt (p x)) → Evt fun n => ∀ x ∈ l, p x n
  | [], _ => ⟨0, fun n _ x hx => by simp at hx⟩
  | a :: l, h => ((h a (by simp)).and (Evt.all l fun x hx => h x (by simp [hx]))).imp fun n ⟨h1, h2⟩ x hx => by
    rcases List.mem_cons.1 hx with rfl | hx
    · exact h1
    · exact h2 x hx

/-- The configuration of this program. -/
def cfRo : Nat → Bool := fun f => [].contains f
def cfEsc : Nat → Nat → Bool := fun f s => [].contains (f, s)
def cfFrz : Nat → Nat → Bool := fun f s => [].contains (f, s)
def cf : Cfg := { ro := cfRo, esc := cfEsc, frz := cfFrz, keep := fun f r => ([((41, 3), [0, 3, 4]), ((10, 5), [4, 5, 21, 22, 23]), ((11, 5), [0, 4, 5])] : List ((Nat × Nat) × List Nat)).findSome? (fun p => if p.1 = (f, r) then some p.2 else none) |>.getD [], res := fun f => ([(41, [2]), (10, [2, 3]), (11, [2, 3])] : List (Nat × List Nat)).findSome? (fun p => if p.1 = f then some p.2 else none) |>.getD [] }
@[simp] theorem cf_ro : cf.ro = cfRo := rfl
@[simp] theorem cf_esc : cf.esc = cfEsc := rfl
@[simp] theorem cf_frz : cf.frz = cfFrz := rfl
attribute [simp] cfRo cfEsc cfFrz
def xt : Nat → Option Caller := fun _ => none
noncomputable abbrev ev : Nat → Caller := evF Try.prog cf xt

theorem evF_step {P : Program} {cfg : Cfg} {ext : Nat → Option Caller} {f n : Nat} {fn : Func} {args : List C} {ro : Bool} {gl : List (List W)} (hx : ext f = none) (hf : P.funcs[f]? = some fn) (hn : (fn.name == "runtime.NumGoroutine") = false) :
    evF P cfg ext (n + 1) f args ro gl = bodyA P cfg f (evF P cfg ext n) n fn args ro gl := by
  simp only [evF, hx, hf, Option.bind_some]
  rw [if_neg (by simpa using hn)]
/-- A call that shares nothing comes to r. -/
def Gives (f : Nat) (args : List C) (r : V) : Prop := Evt fun n => ∀ ro gl, ev n f args ro gl = some (r, gl)
/-- A call among what is shared. -/
def Does (f : Nat) (args : List C) (gl : List (List W)) (r : V) (gl' : List (List W)) : Prop := Evt fun n => ev n f args false gl = some (r, gl')
theorem Gives.intro {f : Nat} {fn : Func} {args : List C} {r : V} (hf : Try.prog.funcs[f]? = some fn) (hn : (fn.name == "runtime.NumGoroutine") = false)
    (h : Evt fun n => ∀ ro gl, bodyA Try.prog cf f (ev n) n fn args ro gl = some (r, gl)) : Gives f args r := by
  obtain ⟨a, h⟩ := h
  refine ⟨a + 1, fun n hn' ro gl => ?_⟩
  obtain ⟨m, rfl⟩ : ∃ m, n = m + 1 := ⟨n - 1, by omega⟩
  rw [ev, evF_step rfl hf hn]
  exact h m (by omega) ro gl
theorem Does.intro {f : Nat} {fn : Func} {args : List C} {r : V} {gl gl' : List (List W)} (hf : Try.prog.funcs[f]? = some fn) (hn : (fn.name == "runtime.NumGoroutine") = false)
    (h : Evt fun n => bodyA Try.prog cf f (ev n) n fn args false gl = some (r, gl')) : Does f args gl r gl' := by
  obtain ⟨a, h⟩ := h
  refine ⟨a + 1, fun n hn' => ?_⟩
  obtain ⟨m, rfl⟩ : ∃ m, n = m + 1 := ⟨n - 1, by omega⟩
  rw [ev, evF_step rfl hf hn]
  exact h m (by omega)
theorem Gives.does {f : Nat} {args : List C} {r : V} (h : Gives f args r) (gl : List (List W)) : Does f args gl r gl := h.imp fun _ h => h _ _

theorem ext_sound : ∀ f g, xt f = some g → Sound Try.prog (fun f' => if f' = f then g f' else fun _ _ _ => none) := fun f g h => by cases h

/-- The loops of some code, outer ones first. -/
def loopsOf : Code → List Code
  | .seq a b => loopsOf a ++ loopsOf b
  | .cond _ a b => loopsOf a ++ loopsOf b
  | .block _ b => loopsOf b
  | .loop b => b :: loopsOf b
  | _ => []
def bodyOf (fn : Func) (k : Nat) : Code := ((fn.body.map loopsOf).getD [])[k]?.getD .skip
def hv (keep : List Nat) (r : Ex × St) : Ex × St := (r.1, r.2.hav keep)
theorem loop_step {f : St → Option (Ex × St)} {keep res : List Nat} {n : Nat} {s S : St} {Z : Option (Ex × St)} (h : (f (s.hav keep)).map (hv keep) = some (.normal, S)) (k : ∀ s', s'.hav keep = S → loopA f keep res n s' = Z) : loopA f keep res (n + 1) s = Z := by
  rw [Option.map_eq_some_iff] at h
  obtain ⟨⟨e, s1⟩, h1, h2⟩ := h
  simp only [hv, Prod.mk.injEq] at h2
  obtain ⟨rfl, h2⟩ := h2
  rw [← k s1 h2]
  simp only [loopA, iter, h1, Option.bind_some]
theorem loop_on {f : St → Option (Ex × St)} {keep : List Nat} {s S : St} (h : (f (s.hav keep)).map (hv keep) = some (.normal, S)) : ∃ s', s'.hav keep = S ∧ ∀ res n, loopA f keep res (n + 1) s = loopA f keep res n s' := by
  rw [Option.map_eq_some_iff] at h
  obtain ⟨⟨e, s1⟩, h1, h2⟩ := h
  simp only [hv, Prod.mk.injEq] at h2
  obtain ⟨rfl, h2⟩ := h2
  refine ⟨s1, h2, fun res n => ?_⟩
  simp only [loopA, iter, h1, Option.bind_some]
theorem loop_exit {f : St → Option (Ex × St)} {keep res : List Nat} {n i : Nat} {s S : St} (h : (f (s.hav keep)).map (hv keep) = some (.exit i, S)) : loopA f keep res (n + 1) s = some (.exit i, S) := by
  rw [Option.map_eq_some_iff] at h
  obtain ⟨⟨e, s1⟩, h1, h2⟩ := h
  simp only [hv, Prod.mk.injEq] at h2
  obtain ⟨rfl, h2⟩ := h2
  simp only [loopA, iter, h1, Option.bind_some, Option.map_some, exitHav, h2]
theorem loop_ret {f : St → Option (Ex × St)} {keep res : List Nat} {n : Nat} {s S : St} (h : (f (s.hav keep)).map (hv res) = some (.ret, S)) : loopA f keep res (n + 1) s = some (.ret, S) := by
  rw [Option.map_eq_some_iff] at h
  obtain ⟨⟨e, s1⟩, h1, h2⟩ := h
  simp only [hv, Prod.mk.injEq] at h2
  obtain ⟨rfl, h2⟩ := h2
  simp only [loopA, iter, h1, Option.bind_some, Option.map_some, exitHav, h2]
theorem iter_succ (f : St → Option (Ex × St)) (h : St → St) (n : Nat) (s : St) : iter f h (n + 1) s = (f (h s)).bind fun | (.normal, s') => iter f h n s' | r => some r := rfl

@[simp] theorem i64w (x : Int) (h : -9223372036854775808 ≤ x ∧ x ≤ 9223372036854775807) : IntKind.i64.wrap x = x := IntWalk.i64_in x h
@[simp] theorem u64w (x : Int) (h : 0 ≤ x ∧ x ≤ 18446744073709551615) : IntKind.u64.wrap x = x := by
  simp only [IntKind.wrap, IntKind.signed, IntKind.bits, Bool.false_and, Bool.false_eq_true, if_false]
  omega
@[simp] theorem u8w (x : Int) (h : 0 ≤ x ∧ x ≤ 255) : IntKind.u8.wrap x = x := by
  simp only [IntKind.wrap, IntKind.signed, IntKind.bits, Bool.false_and, Bool.false_eq_true, if_false]
  omega

@[simp] theorem tmod_nat (n : Nat) (k : Nat) : (n : Int).tmod (no_index (OfNat.ofNat k)) = (n : Int) % (OfNat.ofNat k) := Int.tmod_eq_emod_of_nonneg (by omega)
@[simp] theorem tdiv_nat (n : Nat) (k : Nat) : (n : Int).tdiv (no_index (OfNat.ofNat k)) = (n : Int) / (OfNat.ofNat k) := Int.tdiv_eq_ediv_of_nonneg (by omega)
/-- Closed cells. -/
@[simp] theorem closes_map {α : Type} (f : α → D) (l : List α) : closes (l.map fun x => W.d (f x)) = some (l.map f) := by
  induction l with
  | nil => rfl
  | cons a l ih => simp only [List.map_cons, closes, W.close, Option.bind_some, ih, Option.map_some]
@[simp] theorem hav_d (k : List Nat) : W.hav k ∘ W.d = W.d := rfl
@[simp] theorem hav_df {α : Type} (k : List Nat) (f : α → D) : (W.hav k ∘ fun x => W.d (f x)) = fun x => W.d (f x) := rfl
@[simp] theorem d_df {α : Type} (f : α → D) : (W.d ∘ fun x => f x) = fun x => W.d (f x) := rfl
@[simp] theorem drop_mid {α β : Type} (f : α → β) (p : List α) (x : β) (r : List β) : List.drop (p.length + 1) (p.map f ++ x :: r) = r := by
  rw [List.drop_append]
  simp
@[simp] theorem take_all {α β : Type} (f : α → β) (l : List α) : List.take l.length (l.map f) = l.map f := List.take_of_length_le (by simp)
/-- A byte, as data. -/
abbrev u8D (b : UInt8) : D := .int .u8 b.toNat
@[simp] theorem bytesOf_nil : bytesOf [] = some [] := rfl
@[simp] theorem bytesOf_cons (b : UInt8) (l : List (List D)) : bytesOf ([D.int .u8 b.toNat] :: l) = (bytesOf l).map (b :: ·) := by
  simp only [bytesOf, byteOf]
  rw [if_pos (by have := b.toNat_lt; omega)]
  cases bytesOf l <;> simp
@[simp] theorem bytesOf_u8 (l : List UInt8) : bytesOf (l.map fun x => [D.int .u8 x.toNat]) = some l := by
  induction l with
  | nil => rfl
  | cons a l ih => rw [List.map_cons, bytesOf_cons, ih]; rfl
@[simp] theorem bytesOf_comp (l : List UInt8) : bytesOf (l.map ((fun d => [d]) ∘ u8D)) = some l := bytesOf_u8 l
@[simp] theorem bytesOf_map (l : List UInt8) : bytesOf (l.map byteD) = some l := bytesOf_u8 l

abbrev I (n : Int) : C := .w (.d (.int .i64 n))
abbrev B (b : Bool) : C := .w (.d (.bool b))
abbrev T (s : List UInt8) : C := .w (.d (.str s))
abbrev L (xs : List (List D)) : C := .w (.d (.sl xs))

theorem arg_int {P : Program} {K t : Nat} {k : IntKind} {c : C} (hu : P.underlying t = some (.int k)) (h : ArgOf P (K + 1) t c) : ∃ x, c = .w (.d (.int k x)) ∧ (Lit.int k x).wf = true := by
  obtain ⟨ds, h1, h2⟩ := h
  simp only [Shape, hu] at h1
  obtain ⟨x, rfl, hx⟩ := h1
  rw [isAgg_of hu] at h2
  rcases h2 with ⟨h, _⟩ | ⟨_, d, h, rfl⟩
  · cases h
  · cases h; exact ⟨x, rfl, hx⟩
theorem arg_bool {P : Program} {K t : Nat} {c : C} (hu : P.underlying t = some .bool) (h : ArgOf P (K + 1) t c) : ∃ x, c = .w (.d (.bool x)) := by
  obtain ⟨ds, h1, h2⟩ := h
  simp only [Shape, hu] at h1
  obtain ⟨x, rfl⟩ := h1
  rw [isAgg_of hu] at h2
  rcases h2 with ⟨h, _⟩ | ⟨_, d, h, rfl⟩
  · cases h
  · cases h; exact ⟨x, rfl⟩
theorem arg_str {P : Program} {K t : Nat} {c : C} (hu : P.underlying t = some .string) (h : ArgOf P (K + 1) t c) : ∃ x : List UInt8, c = .w (.d (.str x)) ∧ x.length ≤ maxLen := by
  obtain ⟨ds, h1, h2⟩ := h
  simp only [Shape, hu] at h1
  obtain ⟨x, rfl, hx⟩ := h1
  rw [isAgg_of hu] at h2
  rcases h2 with ⟨h, _⟩ | ⟨_, d, h, rfl⟩
  · cases h
  · cases h; exact ⟨x, rfl, hx⟩
theorem arg_slice {P : Program} {K t e : Nat} {c : C} (hu : P.underlying t = some (.slice e)) (h : ArgOf P (K + 1) t c) : ∃ xs : List (List D), c = .w (.d (.sl xs)) ∧ xs.length ≤ maxLen ∧ ∀ x ∈ xs, Shape P K e x := by
  obtain ⟨ds, h1, h2⟩ := h
  simp only [Shape, hu] at h1
  obtain ⟨x, rfl, hx, hx'⟩ := h1
  rw [isAgg_of hu] at h2
  rcases h2 with ⟨h, _⟩ | ⟨_, d, h, rfl⟩
  · cases h
  · cases h; exact ⟨x, rfl, hx, hx'⟩
theorem uncons' {α β : Type} {R : α → β → Prop} {a : α} {l : List α} {c : List β} (h : All2 R (a :: l) c) : ∃ b r, c = b :: r ∧ R a b ∧ All2 R l r := by
  cases c with
  | nil => exact absurd h.1 (by simp)
  | cons b r => exact ⟨b, r, rfl, h.2 0 a b rfl rfl, by have := h.1; simpa using this, fun i x y hx hy => h.2 (i + 1) x y (by simpa using hx) (by simpa using hy)⟩
theorem nil' {α β : Type} {R : α → β → Prop} {c : List β} (h : All2 R [] c) : c = [] := by
  cases c with
  | nil => rfl
  | cons b r => exact absurd h.1 (by simp)
theorem i64_wf {x : Int} (h : (Lit.int .i64 x).wf = true) : -9223372036854775808 ≤ x ∧ x ≤ 9223372036854775807 := by
  simp [Lit.wf, IntKind.min, IntKind.max, IntKind.signed, IntKind.bits] at h
  omega
theorem Gives.goes {f : Nat} {args : List C} {r : V} (h : Gives f args r) : ∃ n gl, evF Try.prog cf xt n f args false [] = some (r, gl) := by
  obtain ⟨n, h⟩ := h
  exact ⟨n, [], h n (Nat.le_refl _) false []⟩
theorem Does.goes {f : Nat} {args : List C} {r : V} {gl : List (List W)} (h : Does f args [] r gl) : ∃ n gl, evF Try.prog cf xt n f args false [] = some (r, gl) := by
  obtain ⟨n, h⟩ := h
  exact ⟨n, gl, h n (Nat.le_refl _)⟩
/-- A loop, with its code out of simp's sight. -/
def loopC (P : Program) (cfg : Cfg) (fid : Nat) (call : Caller) (n : Nat) (b : Code) (s : St) : Option (Ex × St) :=
  loopA (evC P cfg fid call n b) (cfg.keep fid (firstId b)) (cfg.res fid) n s
@[congr] theorem loopC_congr {P : Program} {cfg : Cfg} {fid : Nat} {call : Caller} {n : Nat} {b : Code} {s s' : St} (h : s = s') : loopC P cfg fid call n b s = loopC P cfg fid call n b s' := by rw [h]
section
variable (P : Program) (cfg : Cfg) (fid : Nat) (call : Caller) (n : Nat) (s : St)
@[simp] theorem evC_skip : evC P cfg fid call n .skip s = some (.normal, s) := rfl
@[simp] theorem evC_seq (a b : Code) : evC P cfg fid call n (.seq a b) s = (evC P cfg fid call n a s).bind fun
    | (.normal, s') => evC P cfg fid call n b s'
    | r => some r := rfl
@[simp] theorem evC_cond (c : Operand) (a b : Code) : evC P cfg fid call n (.cond c a b) s = (s.ev c).bind fun
    | .c (.w (.d (.bool q))) => if q then evC P cfg fid call n a s else evC P cfg fid call n b s
    | _ => none := rfl
@[simp] theorem evC_block (id : Nat) (b : Code) : evC P cfg fid call n (.block id b) s = (evC P cfg fid call n b s).bind fun
    | (.exit i, s') => if i = id then some (.normal, s') else some (.exit i, s')
    | r => some r := by
  simp only [evC]
  cases evC P cfg fid call n b s with
  | none => rfl
  | some r =>
    rcases r with ⟨e, s'⟩
    cases e <;> simp
    split <;> simp [*]
@[simp] theorem evC_exit (id : Nat) : evC P cfg fid call n (.exit id) s = some (.exit id, s) := rfl
@[simp] theorem evC_ret : evC P cfg fid call n .ret s = some (.ret, s) := rfl
@[simp] theorem evC_loop (b : Code) : evC P cfg fid call n (.loop b) s = loopC P cfg fid call n b s := rfl
end
@[simp] theorem beq_int (a b : Int) : (a == b) = decide (a = b) := by rw [Bool.eq_iff_iff]; simp
@[simp] theorem beq_str (a b : List UInt8) : (a == b) = decide (a = b) := by rw [Bool.eq_iff_iff]; simp
@[simp] theorem size_mk (a : Array UInt8) : ByteArray.size ⟨a⟩ = a.size := rfl
@[simp] theorem maxLen_eq : maxLen = 9223372036854775807 := rfl
theorem bind_go {α β : Type} {x : Option α} {v : α} {k : α → Option β} {r : Option β} (h : x = some v) (g : k v = r) : x.bind k = r := by rw [h]; exact g
end Go.Proofs.Ytkklkkppedociaa.Ev
