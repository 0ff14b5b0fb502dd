/- Layer 3: a text's walker. -/
import Derived.Test.YtckonoejmjblfaaGreatDoorPkLibB
set_option linter.unusedVariables false
set_option linter.unusedSimpArgs false
set_option maxRecDepth 100000
set_option maxHeartbeats 2000000
namespace Go.Proofs.YtckonoejmjblfaaGreatDoor.Ev
open Go Go.RowKit

/-- A place behind some more bytes. -/
def adv : List UInt8 → Int → Int → Int × Int
  | [], l, c => (l, c)
  | b :: r, l, c => if b = 10 then adv r (l + 1) 1 else adv r l (c + 1)
theorem lastB_cons (b : UInt8) (s : List UInt8) (c : UInt8) : ∀ n, lastB (b :: s) c (n + 1) = if 0 ≤ lastB s c n then lastB s c n + 1 else if b = c then 0 else -1
  | 0 => by simp [lastB]
  | n + 1 => by
    have ih := lastB_cons b s c n
    rw [lastB]
    simp only [List.getElem?_cons_succ]
    rw [ih]
    conv => rhs; rw [lastB]
    by_cases h : s[n]? = some c
    · simp [h]
    · simp [h]
theorem count_cons (b : UInt8) (r : List UInt8) : Lib.countByte (b :: r) 10 = Lib.countByte r 10 + if b = 10 then 1 else 0 := by
  simp only [Lib.countByte, List.count_cons]
  by_cases h : b = 10 <;> simp [h]
theorem count_last : ∀ (r : List UInt8), Lib.countByte r 10 = 0 ↔ ¬ 0 ≤ lastB r 10 r.length
  | [] => by simp [Lib.countByte, lastB]
  | b :: r => by
    have ih := count_last r
    rw [count_cons, List.length_cons, lastB_cons]
    by_cases h : 0 ≤ lastB r 10 r.length
    · have : Lib.countByte r 10 ≠ 0 := fun e => (ih.1 e) h
      rw [if_pos h]
      constructor
      · intro e; omega
      · intro e; omega
    · rw [if_neg h, ih.2 h]
      by_cases hb : b = 10 <;> simp [hb]
theorem adv_eq : ∀ (s : List UInt8) (l c : Int), adv s l c = if Lib.countByte s 10 = 0 then (l, c + s.length) else (l + Lib.countByte s 10, s.length - lastB s 10 s.length)
  | [], l, c => by simp [adv, Lib.countByte]
  | b :: r, l, c => by
    have hz := count_last r
    have hc := count_cons b r
    rw [adv, adv_eq r (l + 1) 1, adv_eq r l (c + 1), List.length_cons, lastB_cons]
    by_cases h : b = 10
    · rw [if_pos h] at hc
      rw [if_pos h, if_pos h, hc]
      by_cases h0 : Lib.countByte r 10 = 0
      · rw [if_pos h0, if_neg (by omega), if_neg (hz.1 h0), h0]
        simp
        omega
      · have h1 : 0 ≤ lastB r 10 r.length := by
          rcases Int.lt_or_le (lastB r 10 r.length) 0 with h' | h'
          · exact absurd (hz.2 (by omega)) h0
          · exact h'
        rw [if_neg h0, if_neg (by omega), if_pos h1]
        simp
        omega
    · rw [if_neg h] at hc
      rw [if_neg h, if_neg h, hc, Nat.add_zero]
      by_cases h0 : Lib.countByte r 10 = 0
      · rw [if_pos h0, if_pos h0]
        simp
        omega
      · have h1 : 0 ≤ lastB r 10 r.length := by
          rcases Int.lt_or_le (lastB r 10 r.length) 0 with h' | h'
          · exact absurd (hz.2 (by omega)) h0
          · exact h'
        rw [if_neg h0, if_neg h0, if_pos h1]
        simp
        omega
structure Wk where
  s : List UInt8
  ln : Int
  cl : Int
def Wk.w (w : Wk) : List W := [.d (.str w.s), .d (.int .i64 w.ln), .d (.int .i64 w.cl)]
def Wk.step (w : Wk) (n : Nat) : Wk := ⟨w.s.drop n, (adv (w.s.take n) w.ln w.cl).1, (adv (w.s.take n) w.ln w.cl).2⟩
structure Wk.Ok (w : Wk) : Prop where
  l0 : 0 ≤ w.ln
  c0 : 0 ≤ w.cl
  l1 : w.ln + w.s.length < 4611686018427387904
  c1 : w.cl + w.s.length < 4611686018427387904
theorem lastB_lt (s : List UInt8) (c : UInt8) : ∀ n, lastB s c n < n
  | 0 => by simp [lastB]
  | n + 1 => by
    rw [lastB]
    split
    · omega
    · have := lastB_lt s c n; omega
theorem count_le (s : List UInt8) : Lib.countByte s 10 ≤ s.length := List.count_le_length
theorem Wk.Ok.step {w : Wk} (h : w.Ok) {n : Nat} (hn : n ≤ w.s.length) : (w.step n).Ok := by
  obtain ⟨s, ln, cl⟩ := w
  have h1 := h.l0; have h2 := h.c0; have h3 := h.l1; have h4 := h.c1
  simp only at h1 h2 h3 h4 hn
  have e1 := count_le (s.take n)
  have e2 := lastB_lt (s.take n) 10 (s.take n).length
  have e3 := lastB_ge (s.take n) 10 (s.take n).length
  have e4 : (s.take n).length = n := by rw [List.length_take]; omega
  have e5 := count_last (s.take n)
  rw [e4] at e1 e2 e3 e5
  unfold Wk.step
  simp only
  rw [adv_eq, e4]
  split
  · exact ⟨h1, by simp only; omega, by simp only [List.length_drop]; omega, by simp only [List.length_drop]; omega⟩
  · rename_i hne
    have e6 : 0 ≤ lastB (s.take n) 10 n := by
      rcases Int.lt_or_le (lastB (s.take n) 10 n) 0 with h' | h'
      · exact absurd (e5.2 (by omega)) hne
      · exact h'
    exact ⟨by simp only; omega, by simp only; omega, by simp only [List.length_drop]; omega, by simp only [List.length_drop]; omega⟩
theorem step_c {w : Wk} (hk : w.Ok) {n : Nat} (hn : n ≤ w.s.length) : DoesU 81 (fun o => [.w (.glo o 0), I n]) w.w (V.str (w.s.take n)) (w.step n).w := by
  obtain ⟨s, ln, cl⟩ := w
  have h1 := hk.l0; have h2 := hk.c0; have h3 := hk.l1; have h4 := hk.c1
  simp only at h1 h2 h3 h4 hn
  have e1 := count_le (s.take n)
  have e2 := lastB_lt (s.take n) 10 (s.take n).length
  have e3 := lastB_ge (s.take n) 10 (s.take n).length
  have e4 : (s.take n).length = n := by rw [List.length_take]; omega
  refine .intro Tryz.func81 (by kernel_rfl) ((Count_ev (s.take n) 10).and (LastIndexByte_ev (s.take n) 10 (by omega)) |>.imp fun k ⟨k1, k2⟩ gl o ro h hro => ?_)
  rw [e4] at e1 e2 e3 k2
  have hro' : ¬ o < ro := by omega
  have g1 : (n : Int) ≤ s.length := by omega
  simp only [Wk.w] at h
  have hs := fun x => get_set h x
  unfold Wk.step
  rw [adv_eq, e4]
  by_cases hc : Lib.countByte (s.take n) 10 = 0
  · rw [if_pos hc]
    have hc' : ¬ (0 : Int) < Lib.countByte (s.take n) 10 := by omega
    have w1 : IntKind.i64.wrap (cl + n) = cl + n := i64w _ (by omega)
    simp -implicitDefEqProofs [Tryz.f81, h, hs, hro', g1, k1, hc, w1, Wk.w]
  · rw [if_neg hc]
    have hc' : 0 < Lib.countByte (s.take n) 10 := by omega
    have w1 : IntKind.i64.wrap (ln + Lib.countByte (s.take n) 10) = ln + Lib.countByte (s.take n) 10 := i64w _ (by omega)
    have w2 : IntKind.i64.wrap ((n : Int) - lastB (s.take n) 10 n) = (n : Int) - lastB (s.take n) 10 n := i64w _ (by omega)
    have k2' : ∀ ro gl, ev k 145 [T (s.take n), .w (.d (.int .u8 10))] ro gl = some (V.int .i64 (lastB (s.take n) 10 n), gl) := k2
    simp -implicitDefEqProofs [Tryz.f81, h, hs, hro', g1, k1, k2', hc, hc', w1, w2, Wk.w]
/-- How many bytes 'rest' goes past at once. -/
def gapN (s : List UInt8) : Nat := if pre s [35] then (if Lib.indexByte s 10 < 0 then s.length else (Lib.indexByte s 10).toNat) else s.length - (s.dropWhile fun c => blank c.toNat).length
theorem indexByte_lt : ∀ (s : List UInt8) (c : UInt8), Lib.indexByte s c < s.length ∨ Lib.indexByte s c = -1
  | [], c => .inr rfl
  | b :: s, c => by
    simp only [Lib.indexByte]
    split
    · left; simp
    · rcases indexByte_lt s c with h | h
      · split
        · exact .inr rfl
        · left; simp; omega
      · rw [h]; exact .inr rfl
theorem gapN_le (s : List UInt8) : gapN s ≤ s.length := by
  unfold gapN
  split
  · split
    · exact Nat.le_refl _
    · rcases indexByte_lt s 10 with h | h <;> omega
  · omega
def Wk.rest : Nat → Wk → Wk
  | 0, w => w
  | f + 1, w => if gapN w.s = 0 then w else Wk.rest f (w.step (gapN w.s))
theorem Wk.Ok.rest : ∀ {f : Nat} {w : Wk}, w.Ok → (w.rest f).Ok
  | 0, w, h => h
  | f + 1, w, h => by
    unfold Wk.rest
    split
    · exact h
    · exact (h.step (gapN_le _)).rest
def resS (o : Nat) (gl : List (List W)) (ro : Nat) : St := st 37 [(0, .c (.w (.glo o 0)))] [] [] gl ro
theorem rest_round {w : Wk} (hk : w.Ok) : Evt fun k => ∀ N gl o ro, gl[o]? = some w.w → ro ≤ o →
    (gapN w.s = 0 → (evC Tryz.prog cf 79 (ev k) N (bodyOf Tryz.f79 0) (resS o gl ro)).map (hv []) = some (.ret, st 37 [] [] [] gl ro)) ∧
    (gapN w.s ≠ 0 → (evC Tryz.prog cf 79 (ev k) N (bodyOf Tryz.f79 0) (resS o gl ro)).map (hv [0]) = some (.normal, resS o (gl.set o (w.step (gapN w.s)).w) ro)) := by
  have hlen : w.s.length < 4611686018427387904 := by have := hk.l0; have := hk.l1; omega
  refine ((TrimLeft_ev w.s hlen).and ((HasPrefix_ev w.s [35]).and ((IndexByte_ev w.s 10).and (step_c hk (gapN_le w.s))))).imp fun k ⟨h1, h2, h3, h4⟩ N gl o ro hg hro => ?_
  have h4 := fun ro' hro' => h4 gl o ro' hg hro'
  have h3' : ∀ ro gl, ev k 138 [T w.s, .w (.d (.int .u8 10))] ro gl = some (V.int .i64 (Lib.indexByte w.s 10), gl) := h3
  obtain ⟨s, ln, cl⟩ := w
  simp only [Wk.w] at hg hlen h1 h2 h3' h4 ⊢
  have e0 := Lib.indexByte_ge s 10
  have e1 : (s.dropWhile fun c => blank c.toNat).length ≤ s.length := (List.dropWhile_sublist _).length_le
  have w1 : IntKind.i64.wrap ((s.length : Int) - (s.dropWhile fun c => blank c.toNat).length) = (s.length : Int) - (s.dropWhile fun c => blank c.toNat).length := i64w _ (by omega)
  cases hp : pre s [35] with
  | true =>
    by_cases hi : Lib.indexByte s 10 < 0
    · have eg : gapN s = s.length := by simp [gapN, hp, hi]
      rw [eg] at h4 ⊢
      refine ⟨fun hz => ?_, fun hz => ?_⟩
      · have hz' : s = [] := by simpa using hz
        subst hz'
        simp [pre] at hp
      · have hz' : ¬ s = [] := by simpa using hz
        simp -implicitDefEqProofs [resS, bodyOf, loopsOf, hv, Tryz.f79, hg, h1, h2, hp, h3', hi, w1, hz', h4, hro]
    · have eg : gapN s = (Lib.indexByte s 10).toNat := by simp [gapN, hp, hi]
      have ec : (((Lib.indexByte s 10).toNat : Nat) : Int) = Lib.indexByte s 10 := by omega
      rw [eg] at h4 ⊢
      rw [ec] at h4
      refine ⟨fun hz => ?_, fun hz => ?_⟩
      · have hz' : Lib.indexByte s 10 = 0 := by omega
        simp -implicitDefEqProofs [resS, bodyOf, loopsOf, hv, Tryz.f79, hg, h1, h2, hp, h3', w1, hz']
      · have hz' : ¬ Lib.indexByte s 10 = 0 := by omega
        simp -implicitDefEqProofs [resS, bodyOf, loopsOf, hv, Tryz.f79, hg, h1, h2, hp, h3', hi, w1, hz', h4, hro]
  | false =>
    have eg : gapN s = s.length - (s.dropWhile fun c => blank c.toNat).length := by simp [gapN, hp]
    have ec : ((s.length - (s.dropWhile fun c => blank c.toNat).length : Nat) : Int) = (s.length : Int) - (s.dropWhile fun c => blank c.toNat).length := by omega
    rw [eg] at h4 ⊢
    rw [ec] at h4
    refine ⟨fun hz => ?_, fun hz => ?_⟩
    · have hz' : (s.length : Int) - (s.dropWhile fun c => blank c.toNat).length = 0 := by omega
      simp -implicitDefEqProofs [resS, bodyOf, loopsOf, hv, Tryz.f79, hg, h1, h2, hp, w1, hz']
    · have hz' : ¬ (s.length : Int) - (s.dropWhile fun c => blank c.toNat).length = 0 := by omega
      simp -implicitDefEqProofs [resS, bodyOf, loopsOf, hv, Tryz.f79, hg, h1, h2, hp, w1, hz', h4, hro]
theorem rest_loop : ∀ (f : Nat) (w : Wk), w.Ok → w.s.length < f → Evt fun k => ∀ n gl o ro S, gl[o]? = some w.w → ro ≤ o → f ≤ n → S.hav [0] = resS o gl ro →
    loopA (evC Tryz.prog cf 79 (ev k) k (bodyOf Tryz.f79 0)) [0] [] n S = some (.ret, st 37 [] [] [] (gl.set o (w.rest f).w) ro)
  | 0, w, _, hf => absurd hf (by omega)
  | f + 1, w, hk, hf => by
    by_cases hz : gapN w.s = 0
    · refine (rest_round hk).imp fun k h n gl o ro S hg hro hn hS => ?_
      obtain ⟨n, rfl⟩ : ∃ m, n = m + 1 := ⟨n - 1, by omega⟩
      refine loop_ret ?_
      rw [hS, Wk.rest, if_pos hz, set_same hg]
      exact (h k gl o ro hg hro).1 hz
    · have hl : (w.step (gapN w.s)).s.length < f := by
        have := gapN_le w.s
        simp only [Wk.step, List.length_drop]
        omega
      refine ((rest_round hk).and (rest_loop f _ (hk.step (gapN_le _)) hl)).imp fun k ⟨h, h2⟩ n gl o ro S hg hro hn hS => ?_
      obtain ⟨n, rfl⟩ : ∃ m, n = m + 1 := ⟨n - 1, by omega⟩
      have r := (h k gl o ro hg hro).2 hz
      rw [← hS] at r
      obtain ⟨S', hS', e⟩ := loop_on r
      rw [e, h2 n (gl.set o (w.step (gapN w.s)).w) o ro S' (get_set hg _) hro (by omega) hS', Wk.rest, if_neg hz, List.set_set]
theorem rest_c {w : Wk} (hk : w.Ok) : DoesU 79 (fun o => [.w (.glo o 0)]) w.w (.tup []) (w.rest (w.s.length + 1)).w := by
  refine .intro Tryz.func79 (by kernel_rfl) ((rest_loop (w.s.length + 1) w hk (by omega)).and (Evt.ge (w.s.length + 1)) |>.imp fun k ⟨h, hkk⟩ gl o ro hg hro => ?_)
  have tail : ∀ S : St, S.hav [0] = resS o gl ro → loopC Tryz.prog cf 79 (ev k) k (bodyOf Tryz.f79 0) S = _ := fun S hS => h k gl o ro S hg hro hkk hS
  simp -implicitDefEqProofs [Tryz.f79]
  refine bind_go (tail _ ?_) ?_
  · simp [resS]
  · simp
end Go.Proofs.YtckonoejmjblfaaGreatDoor.Ev

/- Layer 3: the token at a text's beginning. -/
set_option linter.unusedVariables false
set_option linter.unusedSimpArgs false
set_option maxRecDepth 100000
set_option maxHeartbeats 2000000
namespace Go.Proofs.YtckonoejmjblfaaGreatDoor.Ev
open Go Go.RowKit

def lowC (c : UInt8) : Bool := decide (97 ≤ c.toNat) && decide (c.toNat ≤ 122)
def figC (c : UInt8) : Bool := decide (48 ≤ c.toNat) && decide (c.toNat ≤ 57)
def wordC (c : UInt8) : Bool := lowC c || figC c || decide (c.toNat = 95)
/-- A test of bytes. -/
def Tests (f : Nat) (p : UInt8 → Bool) : Prop := Evt fun k => ∀ (c : UInt8) ro gl, ev k f [U8 c] ro gl = some (V.bool (p c), gl)
theorem Tests.intro {f : Nat} {fn : Func} {p : UInt8 → Bool} (hf : Tryz.prog.funcs[f]? = some fn) (hn : (fnOk cf f fn && (xtL.lookup f).isNone) = true)
    (h : Evt fun n => ∀ (c : UInt8) ro gl, bodyA Tryz.prog cf f (ev n) n fn [U8 c] ro gl = some (V.bool (p c), gl)) : Tests f p :=
  Evt.up (fun _ g => ∀ (c : UInt8) ro gl, g [U8 c] ro gl = some (V.bool (p c), gl)) hf hn h fun _ _ h => h
theorem low_ev : Tests 139 lowC := by
  refine .intro Tryz.func139 (by kernel_rfl) (.of fun k c ro gl => ?_)
  unfold lowC
  by_cases h1 : 97 ≤ c.toNat
  · have h1' : (97 : Int) ≤ c.toNat := by omega
    by_cases h2 : c.toNat ≤ 122
    · have h2' : (c.toNat : Int) ≤ 122 := by omega
      simp -implicitDefEqProofs [Tryz.f139, h1, h1', h2, h2']
    · have h2' : ¬ (c.toNat : Int) ≤ 122 := by omega
      simp -implicitDefEqProofs [Tryz.f139, h1, h1', h2, h2']
  · have h1' : ¬ (97 : Int) ≤ c.toNat := by omega
    simp -implicitDefEqProofs [Tryz.f139, h1, h1']
theorem fig_ev : Tests 142 figC := by
  refine .intro Tryz.func142 (by kernel_rfl) (.of fun k c ro gl => ?_)
  unfold figC
  by_cases h1 : 48 ≤ c.toNat
  · have h1' : (48 : Int) ≤ c.toNat := by omega
    by_cases h2 : c.toNat ≤ 57
    · have h2' : (c.toNat : Int) ≤ 57 := by omega
      simp -implicitDefEqProofs [Tryz.f142, h1, h1', h2, h2']
    · have h2' : ¬ (c.toNat : Int) ≤ 57 := by omega
      simp -implicitDefEqProofs [Tryz.f142, h1, h1', h2, h2']
  · have h1' : ¬ (48 : Int) ≤ c.toNat := by omega
    simp -implicitDefEqProofs [Tryz.f142, h1, h1']
theorem word_ev : Tests 141 wordC := by
  refine .intro Tryz.func141 (by kernel_rfl) (low_ev.and fig_ev |>.imp fun k ⟨h1, h2⟩ c ro gl => ?_)
  have h1 := h1 c
  have h2 := h2 c
  unfold wordC
  cases hl : lowC c with
  | true => simp -implicitDefEqProofs [Tryz.f141, h1, h2, hl]
  | false =>
    cases hf : figC c with
    | true => simp -implicitDefEqProofs [Tryz.f141, h1, h2, hl, hf]
    | false =>
      have e : ((c.toNat : Int) = 95) = (c.toNat = 95) := propext ⟨fun h => by omega, fun h => by omega⟩
      simp -implicitDefEqProofs [Tryz.f141, h1, h2, hl, hf, e]
def runS (s : List UInt8) (f : Nat) (i : Nat) (gl : List (List W)) (ro : Nat) : St := st 20 [(0, .c (T s)), (1, .c (.w (.fn f []))), (5, V.int .i64 i)] [] [] gl ro
theorem run_ev (s : List UInt8) {f : Nat} {p : UInt8 → Bool} (hf : Tests f p) (hr : cf.ro f = true) (hs : s.length < 4611686018427387904) : Gives 140 [T s, .w (.fn f [])] (V.int .i64 (s.takeWhile p).length) := by
  refine .intro Tryz.func140 (by kernel_rfl) (hf.and (Evt.ge (s.length + 1)) |>.imp fun k ⟨h, hk⟩ ro gl => ?_)
  rw [cf_ro] at hr
  have tail : ∀ S : St, S.hav [0, 1, 5] = runS s f 0 gl gl.length → loopC Tryz.prog cf 140 (ev k) k (bodyOf Tryz.f140 0) S = some (.exit 0, runS s f (s.takeWhile p).length gl gl.length) := by
    intro S hS
    refine loop_by (keep := [0, 1, 5]) (res := []) (fun a : List UInt8 × List UInt8 => runS s f a.1.length gl gl.length) (fun a => s = a.1 ++ a.2) (fun a => a.2.length) (fun a => (.exit 0, runS s f (a.1.length + (a.2.takeWhile p).length) gl gl.length)) ?_ k ([], s) S rfl (by show s.length < k; omega) hS |>.trans (by simp)
    rintro ⟨q, r⟩ hq
    simp only at hq
    cases r with
    | nil =>
      obtain rfl : s = q := by simpa using hq
      refine .inr (.inl ⟨0, runS s f s.length gl gl.length, ?_, by simp⟩)
      simp -implicitDefEqProofs [runS, bodyOf, loopsOf, hv, Tryz.f140]
    | cons c r =>
      have hlt : (q.length : Int) < q.length + (r.length + 1) := by omega
      have hp : q.length < 4611686018427387904 := by rw [hq] at hs; simp at hs; omega
      have w : IntKind.i64.wrap ((q.length : Int) + 1) = (q.length : Int) + 1 := i64w _ (by omega)
      have h := h c
      subst hq
      cases hpc : p c with
      | true =>
        refine .inl ⟨(q ++ [c], r), by simp, by simp, ?_, by simp only [List.takeWhile_cons, hpc, if_true, List.length_cons, List.length_append, List.length_nil]; rw [show q.length + ((r.takeWhile p).length + 1) = q.length + (0 + 1) + (r.takeWhile p).length by omega]⟩
        simp -implicitDefEqProofs [runS, bodyOf, loopsOf, hv, Tryz.f140, hlt, h, hpc, w, hr]
      | false =>
        refine .inr (.inl ⟨0, runS (q ++ c :: r) f q.length gl gl.length, ?_, by simp [List.takeWhile_cons, hpc]⟩)
        simp -implicitDefEqProofs [runS, bodyOf, loopsOf, hv, Tryz.f140, hlt, h, hpc, hr]
  simp -implicitDefEqProofs [Tryz.f140]
  refine bind_go (tail _ ?_) ?_
  · simp [runS]
  · simp [runS]
def marks2 : List (List UInt8) := [[45, 62], [58, 61], [60, 61], [62, 61], [33, 61], [61, 61], [46, 46]]
def marks1 : List UInt8 := [123, 125, 91, 93, 40, 41, 44, 59, 61, 60, 62, 43, 45, 42, 47]
def hasM2 (s : List UInt8) : Bool := marks2.any (pre s)
def markN (s : List UInt8) : Nat := if hasM2 s then 2 else if 0 ≤ Lib.indexByte marks1 (s.headD 0) then 1 else 0
def maS (s : List UInt8) (i : Nat) (gl : List (List W)) (ro : Nat) : St := st 19 [(0, .c (T s)), (5, .c (.agg (marks2.map fun m => .d (.str m)))), (6, V.int .i64 i)] [] [] gl ro
theorem ma_round (s : List UInt8) : Evt fun k => ∀ N gl ro i (m : List UInt8), marks2[i]? = some m →
    (pre s m = true → (evC Tryz.prog cf 143 (ev k) N (bodyOf Tryz.f143 0) (maS s i gl ro)).map (hv [2]) = some (.ret, st 19 [(2, V.int .i64 2)] [] [] gl ro)) ∧
    (pre s m = false → (evC Tryz.prog cf 143 (ev k) N (bodyOf Tryz.f143 0) (maS s i gl ro)).map (hv [0, 5, 6]) = some (.normal, maS s (i + 1) gl ro)) := by
  refine (Evt.all marks2 fun m _ => HasPrefix_ev s m).imp fun k h N gl ro i m hm => ?_
  have h := h m (List.mem_of_getElem? hm)
  match i, hm with
  | 0, hm => cases hm; exact ⟨fun hp => by simp -implicitDefEqProofs [maS, marks2, bodyOf, loopsOf, hv, Tryz.f143, h, hp], fun hp => by simp -implicitDefEqProofs [maS, marks2, bodyOf, loopsOf, hv, Tryz.f143, h, hp]⟩
  | 1, hm => cases hm; exact ⟨fun hp => by simp -implicitDefEqProofs [maS, marks2, bodyOf, loopsOf, hv, Tryz.f143, h, hp], fun hp => by simp -implicitDefEqProofs [maS, marks2, bodyOf, loopsOf, hv, Tryz.f143, h, hp]⟩
  | 2, hm => cases hm; exact ⟨fun hp => by simp -implicitDefEqProofs [maS, marks2, bodyOf, loopsOf, hv, Tryz.f143, h, hp], fun hp => by simp -implicitDefEqProofs [maS, marks2, bodyOf, loopsOf, hv, Tryz.f143, h, hp]⟩
  | 3, hm => cases hm; exact ⟨fun hp => by simp -implicitDefEqProofs [maS, marks2, bodyOf, loopsOf, hv, Tryz.f143, h, hp], fun hp => by simp -implicitDefEqProofs [maS, marks2, bodyOf, loopsOf, hv, Tryz.f143, h, hp]⟩
  | 4, hm => cases hm; exact ⟨fun hp => by simp -implicitDefEqProofs [maS, marks2, bodyOf, loopsOf, hv, Tryz.f143, h, hp], fun hp => by simp -implicitDefEqProofs [maS, marks2, bodyOf, loopsOf, hv, Tryz.f143, h, hp]⟩
  | 5, hm => cases hm; exact ⟨fun hp => by simp -implicitDefEqProofs [maS, marks2, bodyOf, loopsOf, hv, Tryz.f143, h, hp], fun hp => by simp -implicitDefEqProofs [maS, marks2, bodyOf, loopsOf, hv, Tryz.f143, h, hp]⟩
  | 6, hm => cases hm; exact ⟨fun hp => by simp -implicitDefEqProofs [maS, marks2, bodyOf, loopsOf, hv, Tryz.f143, h, hp], fun hp => by simp -implicitDefEqProofs [maS, marks2, bodyOf, loopsOf, hv, Tryz.f143, h, hp]⟩
  | i + 7, hm => simp [marks2] at hm
theorem mark_ev (c : UInt8) (r : List UInt8) (hs : r.length < 4611686018427387904) : Gives 143 [T (c :: r)] (V.int .i64 (markN (c :: r))) := by
  refine .intro Tryz.func143 (by kernel_rfl) ((ma_round (c :: r)).and ((IndexByte_ev marks1 c).and (Evt.ge 9)) |>.imp fun k ⟨h, h1, hk⟩ ro gl => ?_)
  have tail : ∀ S : St, S.hav [0, 5, 6] = maS (c :: r) 0 gl gl.length → loopC Tryz.prog cf 143 (ev k) k (bodyOf Tryz.f143 0) S = some (if hasM2 (c :: r) then (.ret, st 19 [(2, V.int .i64 2)] [] [] gl gl.length) else (.exit 0, maS (c :: r) 7 gl gl.length)) := by
    intro S hS
    refine loop_by (keep := [0, 5, 6]) (res := [2]) (fun i : Nat => maS (c :: r) i gl gl.length) (fun i => i ≤ 7) (fun i => 7 - i) (fun i => if (marks2.drop i).any (pre (c :: r)) then (.ret, st 19 [(2, V.int .i64 2)] [] [] gl gl.length) else (.exit 0, maS (c :: r) 7 gl gl.length)) ?_ k 0 S (by omega) (by omega) hS
    intro i hi
    by_cases hi7 : i = 7
    · subst hi7
      refine .inr (.inl ⟨0, maS (c :: r) 7 gl gl.length, ?_, by simp [marks2]⟩)
      simp -implicitDefEqProofs [maS, bodyOf, loopsOf, hv, Tryz.f143]
    · have hlt : i < marks2.length := by simp [marks2]; omega
      have hm : marks2[i]? = some marks2[i] := List.getElem?_eq_getElem hlt
      have hd : marks2.drop i = marks2[i] :: marks2.drop (i + 1) := List.drop_eq_getElem_cons hlt
      obtain ⟨k1, k2⟩ := h k gl gl.length i _ hm
      cases hp : pre (c :: r) marks2[i] with
      | true => exact .inr (.inr ⟨_, k1 hp, by rw [hd, List.any_cons, hp]; simp⟩)
      | false => exact .inl ⟨i + 1, by omega, by omega, k2 hp, by rw [hd, List.any_cons, hp]; simp⟩
  have g0 : (0 : Int) < r.length + 1 := by omega
  have h1' : ∀ ro gl, ev k 138 [.w (.d (.str [123, 125, 91, 93, 40, 41, 44, 59, 61, 60, 62, 43, 45, 42, 47])), U8 c] ro gl = some (V.int .i64 (Lib.indexByte marks1 c), gl) := h1
  unfold markN
  simp -implicitDefEqProofs [Tryz.f143]
  refine bind_go (tail _ ?_) ?_
  · simp [maS, marks2]
  · cases hm : hasM2 (c :: r) with
    | true => simp
    | false =>
      by_cases hi : 0 ≤ Lib.indexByte marks1 c
      · simp -implicitDefEqProofs [maS, g0, h1', hi]
      · simp -implicitDefEqProofs [maS, g0, h1', hi]
end Go.Proofs.YtckonoejmjblfaaGreatDoor.Ev

/- Layer 3: the next token; all tokens. -/

set_option linter.unusedVariables false
set_option linter.unusedSimpArgs false
set_option maxRecDepth 100000
set_option maxHeartbeats 2000000
namespace Go.Proofs.YtckonoejmjblfaaGreatDoor.Ev
open Go Go.RowKit

/-- Kind, length, error of the token at the beginning. -/
def nextT (s : List UInt8) : Int × Nat × Int :=
  if lowC (s.headD 0) then (if 12 < (s.takeWhile wordC).length then (0, 0, 5) else (1, (s.takeWhile wordC).length, 0))
  else if figC (s.headD 0) then
    (if (s.drop (s.takeWhile figC).length).head?.any wordC then (0, 0, 2) else if 9 < (s.takeWhile figC).length then (0, 0, 5) else (2, (s.takeWhile figC).length, 0))
  else if markN s = 0 then (0, 0, 2) else (3, markN s, 0)
theorem takeWhile_le (p : UInt8 → Bool) (s : List UInt8) : (s.takeWhile p).length ≤ s.length := (List.takeWhile_sublist p).length_le
theorem next_ev (c : UInt8) (r : List UInt8) (hs : r.length + 1 < 4611686018427387904) : Gives 80 [T (c :: r)] (.tup [I (nextT (c :: r)).1, I (nextT (c :: r)).2.1, I (nextT (c :: r)).2.2]) := by
  have hs' : (c :: r).length < 4611686018427387904 := by simp; omega
  have t1 := takeWhile_le wordC (c :: r)
  have t2 := takeWhile_le figC (c :: r)
  have base := low_ev.and (fig_ev.and (word_ev.and ((run_ev (c :: r) word_ev rfl hs').and ((run_ev (c :: r) fig_ev rfl hs').and (mark_ev c r (by omega))))))
  refine .intro Tryz.func80 (by kernel_rfl) (base.imp fun k ⟨h1, h2, h3, h4, h5, h6⟩ ro gl => ?_)
  have h1 := h1 c
  have h2 := h2 c
  have g0 : (0 : Int) < r.length + 1 := by omega
  unfold nextT
  simp only [List.headD_cons]
  obtain ⟨n1, hn1⟩ : ∃ n, ((c :: r).takeWhile wordC).length = n := ⟨_, rfl⟩
  obtain ⟨n2, hn2⟩ : ∃ n, ((c :: r).takeWhile figC).length = n := ⟨_, rfl⟩
  simp only [hn1, hn2] at h4 h5 t1 t2 ⊢
  cases hl : lowC c with
  | true =>
    by_cases hn : 12 < n1
    · have hn' : (12 : Int) < n1 := by omega
      simp -implicitDefEqProofs [Tryz.f80, h1, h4, hl, g0, hn, hn']
    · have hn' : ¬ (12 : Int) < n1 := by omega
      simp -implicitDefEqProofs [Tryz.f80, h1, h4, hl, g0, hn, hn']
  | false =>
    cases hf : figC c with
    | true =>
      have tail : ∀ b : Bool, b = (((c :: r).drop n2).head?.any wordC) → True := fun _ _ => trivial
      cases hd : (c :: r).drop n2 with
      | nil =>
        have hle : (c :: r).length ≤ n2 := by simpa using hd
        have e : ¬ (n2 : Int) < r.length + 1 := by simp at hle; omega
        by_cases hn : 9 < n2
        · have hn' : (9 : Int) < n2 := by omega
          simp -implicitDefEqProofs [Tryz.f80, h1, h2, h5, hl, hf, g0, e, hn, hn']
        · have hn' : ¬ (9 : Int) < n2 := by omega
          simp -implicitDefEqProofs [Tryz.f80, h1, h2, h5, hl, hf, g0, e, hn, hn']
      | cons b q =>
        have hlt : n2 < (c :: r).length := by
          rcases Nat.lt_or_ge n2 (c :: r).length with h | h
          · exact h
          · rw [List.drop_of_length_le h] at hd; cases hd
        have e : (n2 : Int) < r.length + 1 := by simp at hlt; omega
        have hb : (c :: r)[n2]? = some b := by
          have := List.head?_drop (l := c :: r) (i := n2)
          rw [hd] at this
          exact this.symm
        have h3 := h3 b
        cases hw : wordC b with
        | true => simp -implicitDefEqProofs [Tryz.f80, h1, h2, h5, hl, hf, g0, e, hb, h3, hw]
        | false =>
          by_cases hn : 9 < n2
          · have hn' : (9 : Int) < n2 := by omega
            simp -implicitDefEqProofs [Tryz.f80, h1, h2, h5, hl, hf, g0, e, hb, h3, hw, hn, hn']
          · have hn' : ¬ (9 : Int) < n2 := by omega
            simp -implicitDefEqProofs [Tryz.f80, h1, h2, h5, hl, hf, g0, e, hb, h3, hw, hn, hn']
    | false =>
      by_cases hn : markN (c :: r) = 0
      · have hn' : ((markN (c :: r) : Nat) : Int) = 0 := by omega
        simp -implicitDefEqProofs [Tryz.f80, h1, h2, h6, hl, hf, g0, hn, hn']
      · have hn' : ¬ ((markN (c :: r) : Nat) : Int) = 0 := by omega
        simp -implicitDefEqProofs [Tryz.f80, h1, h2, h6, hl, hf, g0, hn, hn']
end Go.Proofs.YtckonoejmjblfaaGreatDoor.Ev
