/- Layer 6: the program's lists; which sign is next. -/
import Derived.Test.YtkklkkppedociaaGreatDoorPkExpA
set_option linter.unusedVariables false
set_option linter.unusedSimpArgs false
set_option maxRecDepth 100000
set_option maxHeartbeats 4000000
namespace Go.Proofs.YtkklkkppedociaaGreatDoor.Ev
open Go Go.RowKit

abbrev tlD (b : List Tm) : List D := [.sl (b.map Tm.c)]
abbrev opC (op : Int) : List D := [.int .i64 op, .int .i64 0, .str []]
def jV (op : Int) (l : List Tm) : V := if l = [] then .c (.w (.full [opC op])) else .c (.w (.app 19 (opC op :: l.map Tm.c)))
def jS (op : Int) (bs : List (List Tm)) (i : Nat) (l : List Tm) (s : Bool) (gl : List (List W)) (ro : Nat) : St :=
  st 22 [(5, jV op l), (11, .c (L (bs.map tlD))), (12, V.int .i64 bs.length), (13, V.int .i64 i), (19, if s then jV op l else V.un)] [] (if l = [] then [] else [(19, ⟨l.length + 1, 60, 3⟩)]) gl ro
theorem jn_round (call : Caller) (N : Nat) (op : Int) (bs : List (List Tm)) (hbs : bs.length < 1000000) (i : Nat) (b l : List Tm) (hb : bs[i]? = some b) (hl : l.length + b.length < 1000000) (s : Bool) (hs : l ≠ [] → s = true) (gl : List (List W)) (ro : Nat) :
    (evC Tryz.prog cf 69 call N (bodyOf Tryz.f69 0) (jS op bs i l s gl ro)).map (hv [5, 11, 12, 13, 19]) = some (.normal, jS op bs (i + 1) (l ++ b) true gl ro) := by
  have hlt : i < bs.length := (List.getElem?_eq_some_iff.1 hb).1
  have hlt' : (i : Int) < bs.length := by omega
  have hbe : bs[i] = b := (List.getElem?_eq_some_iff.1 hb).2
  have w : IntKind.i64.wrap ((i : Int) + 1) = (i : Int) + 1 := i64w _ (by omega)
  have g3 : (1 + b.length) * 32 ≤ 140737488355328 := by omega
  have g4 : 1 + b.length ≤ 9223372036854775807 := by omega
  have k3 : (l.length + 1 + b.length) * 32 ≤ 140737488355328 := by omega
  have k4 : l.length + 1 + b.length ≤ 9223372036854775807 := by omega
  have c1 : b.length + 1 = 1 + b.length := by omega
  have c2 : l.length + b.length + 1 = l.length + 1 + b.length := by omega
  by_cases h0 : l = []
  · subst h0
    by_cases h1 : b = []
    · subst h1
      cases s
      · simp -implicitDefEqProofs [jS, jV, bodyOf, loopsOf, hv, Tryz.f69, hlt, hlt', hbe, w]
      · simp -implicitDefEqProofs [jS, jV, bodyOf, loopsOf, hv, Tryz.f69, hlt, hlt', hbe, w]
    · have hb0 : 0 < b.length := List.length_pos_iff.2 h1
      cases s
      · simp -implicitDefEqProofs [jS, jV, bodyOf, loopsOf, hv, Tryz.f69, hlt, hlt', hbe, w, h1, hb0, g3, g4, Tm.c_len, c1]
      · simp -implicitDefEqProofs [jS, jV, bodyOf, loopsOf, hv, Tryz.f69, hlt, hlt', hbe, w, h1, hb0, g3, g4, Tm.c_len, c1]
  · have hs' := hs h0
    subst hs'
    by_cases h1 : b = []
    · subst h1
      simp -implicitDefEqProofs [jS, jV, bodyOf, loopsOf, hv, Tryz.f69, hlt, hlt', hbe, w, h0]
    · have hb0 : 0 < b.length := List.length_pos_iff.2 h1
      simp -implicitDefEqProofs [jS, jV, bodyOf, loopsOf, hv, Tryz.f69, hlt, hlt', hbe, w, h0, h1, hb0, k3, k4, Tm.c_len, c2]
theorem jn_loop (call : Caller) (N : Nat) (op : Int) (bs : List (List Tm)) (hbs : bs.length < 1000000) (gl : List (List W)) (ro : Nat) : ∀ (r p : List (List Tm)) (l : List Tm) (s : Bool) (n : Nat) (S : St), bs = p ++ r → (l ≠ [] → s = true) → l.length + r.flatten.length < 1000000 → r.length < n → S.hav [5, 11, 12, 13, 19] = jS op bs p.length l s gl ro → ∃ s' : Bool, True ∧
    loopA (evC Tryz.prog cf 69 call N (bodyOf Tryz.f69 0)) [5, 11, 12, 13, 19] [] n S = some (.exit 0, jS op bs bs.length (l ++ r.flatten) s' gl ro)
  | [], p, l, s, n, S, hp, hs, hl, hn, hS => by
    refine ⟨s, trivial, ?_⟩
    obtain ⟨n, rfl⟩ : ∃ m, n = m + 1 := ⟨n - 1, by omega⟩
    have : p = bs := by simpa using hp.symm
    subst this
    refine loop_exit ?_
    rw [hS]
    simp only [List.flatten_nil, List.append_nil]
    by_cases h0 : l = []
    · cases s <;> simp -implicitDefEqProofs [jS, jV, h0, bodyOf, loopsOf, hv, Tryz.f69]
    · have hs' := hs h0
      subst hs'
      simp -implicitDefEqProofs [jS, jV, h0, bodyOf, loopsOf, hv, Tryz.f69]
  | b :: r, p, l, s, n, S, hp, hs, hl, hn, hS => by
    obtain ⟨n, rfl⟩ : ∃ m, n = m + 1 := ⟨n - 1, by omega⟩
    rw [List.flatten_cons, List.length_append] at hl
    have hb : bs[p.length]? = some b := by rw [hp]; simp
    have r1 := jn_round call N op bs hbs p.length b l hb (by omega) s hs gl ro
    rw [← hS] at r1
    obtain ⟨S', hS', e⟩ := loop_on r1
    obtain ⟨s', _, h⟩ := jn_loop call N op bs hbs gl ro r (p ++ [b]) (l ++ b) true n S' (by rw [hp]; simp) (fun _ => rfl) (by rw [List.length_append]; omega) (by simpa using hn) (by simpa using hS')
    exact ⟨s', trivial, by rw [e, h, List.flatten_cons, List.append_assoc]⟩
theorem bind_ex2 {α β ι : Type} {x : Option α} {f : α → Option β} {z : Option β} {p : ι → Prop} {v : ι → α} (h : ∃ i, p i ∧ x = some (v i)) (k : ∀ i, p i → f (v i) = z) : x.bind f = z := by
  obtain ⟨i, h1, h2⟩ := h
  rw [h2]
  exact k i h1
theorem join_ev (op : Int) (bs : List (List Tm)) (hbs : bs.length < 1000000) (hl : bs.flatten.length < 1000000) : Gives 69 [I op, L (bs.map tlD)] (.c (L ((⟨op, 0, []⟩ :: bs.flatten : List Tm).map Tm.c))) := by
  refine .intro Tryz.func69 (by kernel_rfl) ((Evt.ge (bs.length + 1)).imp fun k hk ro gl => ?_)
  have tail : ∀ S : St, S.hav [5, 11, 12, 13, 19] = jS op bs 0 [] false gl gl.length → ∃ s' : Bool, True ∧ loopC Tryz.prog cf 69 (ev k) k (bodyOf Tryz.f69 0) S = some (.exit 0, jS op bs bs.length bs.flatten s' gl gl.length) := fun S hS => jn_loop (ev k) k op bs hbs gl gl.length bs [] [] false k S rfl (fun h => absurd rfl h) (by simpa using hl) (by omega) hS
  generalize bs.flatten = fl at tail hl ⊢
  simp -implicitDefEqProofs [Tryz.f69]
  refine bind_ex2 (tail _ ?_) fun b _ => ?_
  · simp [jS, jV]
  · by_cases h0 : fl = []
    · cases b <;> simp [jS, jV, h0, Tm.c]
    · cases b <;> simp [jS, jV, h0, Tm.c]
/-! which sign is next -/
def bwF (t : Tk) (i : Nat) : Int := ((allOps.drop i).find? fun op => decide (signB op ≠ []) && decide (signB op = t.text)).getD 0
def bwS (x : W) (t : Tk) (i : Nat) (gl : List (List W)) (ro : Nat) : St := st 34 [(3, .c (.w (.box 3 0))), (4, V.int .i64 ((i : Int) + 4))] [(3, [.d (.int .i64 t.kind), .d (.str t.text), .d (.int .i64 t.ln), .d (.int .i64 t.cl)])] [] gl ro
theorem allOps_get {i : Nat} (h : i < 17) : allOps[i]? = some ((i : Int) + 4) := by
  have : i = 0 ∨ i = 1 ∨ i = 2 ∨ i = 3 ∨ i = 4 ∨ i = 5 ∨ i = 6 ∨ i = 7 ∨ i = 8 ∨ i = 9 ∨ i = 10 ∨ i = 11 ∨ i = 12 ∨ i = 13 ∨ i = 14 ∨ i = 15 ∨ i = 16 := by omega
  rcases this with h | h | h | h | h | h | h | h | h | h | h | h | h | h | h | h | h <;> subst h <;> rfl
theorem allOps_drop {i : Nat} (h : i < 17) : allOps.drop i = ((i : Int) + 4) :: allOps.drop (i + 1) := by
  have hl : i < allOps.length := h
  rw [List.drop_eq_getElem_cons hl]
  congr 1
  exact Option.some.inj ((List.getElem?_eq_getElem hl).symm.trans (allOps_get h))
theorem bw_loop (t : Tk) (x : W) : Evt fun k => ∀ gl ro n S, 18 < n → S.hav [3, 4] = bwS x t 0 gl ro →
    loopA (evC Tryz.prog cf 66 (ev k) k (bodyOf Tryz.f66 0)) [3, 4] [2] n S = some (if btw t ≠ 0 then (.ret, st 34 [(2, V.int .i64 (btw t))] [] [] gl ro) else (.exit 0, bwS x t 17 gl ro)) := by
  refine sign_ev.imp fun k hsg gl ro n S hn hS => ?_
  refine loop_by (keep := [3, 4]) (res := [2]) (fun i : Nat => bwS x t i gl ro) (fun i => i ≤ 17) (fun i => 17 - i) (fun i => if (t.kind = 3 ∨ t.kind = 1) ∧ bwF t i ≠ 0 then (.ret, st 34 [(2, V.int .i64 (bwF t i))] [] [] gl ro) else (.exit 0, bwS x t 17 gl ro)) ?_ n 0 S (by omega) (by omega) hS |>.trans ?_
  · intro i hi
    by_cases h17 : i = 17
    · subst h17
      refine .inr (.inl ⟨0, bwS x t 17 gl ro, ?_, ?_⟩)
      · simp -implicitDefEqProofs [bwS, bodyOf, loopsOf, hv, Tryz.f66]
      · rw [if_neg]; rintro ⟨_, h⟩; exact h rfl
    · have hlt : i < 17 := by omega
      have hs := fun ro gl => hsg ((i : Int) + 4) ro gl (by omega) (by omega)
      have hd := allOps_drop hlt
      have g1 : (i : Int) + 4 ≤ 20 := by omega
      have w : IntKind.i64.wrap ((i : Int) + 4 + 1) = (i : Int) + 1 + 4 := by rw [i64w _ (by omega)]; omega
      have w2 : ((i + 1 : Nat) : Int) + 4 = (i : Int) + 1 + 4 := by omega
      have hF : bwF t i = if signB ((i : Int) + 4) ≠ [] ∧ signB ((i : Int) + 4) = t.text then (i : Int) + 4 else bwF t (i + 1) := by
        unfold bwF
        rw [hd, List.find?_cons]
        by_cases hc : signB ((i : Int) + 4) ≠ [] ∧ signB ((i : Int) + 4) = t.text
        · rw [if_pos hc, decide_eq_true hc.1, decide_eq_true hc.2]; rfl
        · rw [if_neg hc]
          have : (decide (signB ((i : Int) + 4) ≠ []) && decide (signB ((i : Int) + 4) = t.text)) = false := by
            simp only [Bool.and_eq_false_iff, decide_eq_false_iff_not]
            by_cases h1 : signB ((i : Int) + 4) ≠ []
            · exact .inr fun h2 => hc ⟨h1, h2⟩
            · exact .inl h1
          rw [this]
      generalize signB ((i : Int) + 4) = sg at hs hF
      by_cases h1 : sg = []
      · refine .inl ⟨i + 1, by omega, by omega, ?_, ?_⟩
        · simp -implicitDefEqProofs [bwS, bodyOf, loopsOf, hv, Tryz.f66, hs, g1, w, w2, h1]
        · rw [show bwF t i = bwF t (i + 1) by rw [hF, if_neg (fun h => h.1 h1)]]
      · by_cases h2 : sg = t.text
        · subst h2
          have h2 : True := trivial
          by_cases h3 : t.kind = 3
          · refine .inr (.inr ⟨st 34 [(2, V.int .i64 ((i : Int) + 4))] [] [] gl ro, ?_, ?_⟩)
            · simp -implicitDefEqProofs [bwS, bodyOf, loopsOf, hv, Tryz.f66, hs, g1, w, w2, h1, h2, h3]
            · rw [show bwF t i = (i : Int) + 4 by rw [hF, if_pos ⟨h1, rfl⟩], if_pos ⟨.inl h3, by omega⟩]
          · by_cases h4 : t.kind = 1
            · refine .inr (.inr ⟨st 34 [(2, V.int .i64 ((i : Int) + 4))] [] [] gl ro, ?_, ?_⟩)
              · simp -implicitDefEqProofs [bwS, bodyOf, loopsOf, hv, Tryz.f66, hs, g1, w, w2, h1, h2, h3, h4]
              · rw [show bwF t i = (i : Int) + 4 by rw [hF, if_pos ⟨h1, rfl⟩], if_pos ⟨.inr h4, by omega⟩]
            · refine .inl ⟨i + 1, by omega, by omega, ?_, ?_⟩
              · simp -implicitDefEqProofs [bwS, bodyOf, loopsOf, hv, Tryz.f66, hs, g1, w, w2, h1, h2, h3, h4]
              · rw [if_neg (fun h => h.1.elim h3 h4), if_neg (fun h => h.1.elim h3 h4)]
        · refine .inl ⟨i + 1, by omega, by omega, ?_, ?_⟩
          · simp -implicitDefEqProofs [bwS, bodyOf, loopsOf, hv, Tryz.f66, hs, g1, w, w2, h1, h2]
          · rw [show bwF t i = bwF t (i + 1) by rw [hF, if_neg (fun h => h2 h.2)]]
  · have : btw t = if t.kind = 3 ∨ t.kind = 1 then bwF t 0 else 0 := rfl
    rw [this]
    by_cases hk : t.kind = 3 ∨ t.kind = 1
    · rw [if_pos hk]
      by_cases h0 : bwF t 0 = 0
      · rw [if_neg (fun h => h.2 h0), if_neg (fun h => h h0)]
      · rw [if_pos ⟨hk, h0⟩, if_pos h0]
    · rw [if_neg (fun h => hk h.1), if_neg hk, if_neg (fun h => h rfl)]
theorem between_ev {c : Cu} (hk : c.Ok) : ReadsU 66 (fun o => [.agg [.glo o 0]]) c.w (V.int .i64 (btw c.next)) := by
  refine .intro Tryz.func66 (by kernel_rfl) (((next_c hk).and ((bw_loop c.next .nil).and (Evt.ge 19))).imp fun k ⟨h1, h2, hK⟩ gl o ro hg => ?_)
  have h1 := fun ro => h1 gl o ro hg
  simp [Tk.w] at h1
  by_cases hb : btw c.next = 0
  · have tail : ∀ (ro : Nat) (S : St), S.hav [3, 4] = bwS .nil c.next 0 gl ro → loopC Tryz.prog cf 66 (ev k) k (bodyOf Tryz.f66 0) S = some (.exit 0, bwS .nil c.next 17 gl ro) := fun ro S hS => (h2 gl ro k S (by omega) hS).trans (congrArg some (if_neg (by simp [hb])))
    simp -implicitDefEqProofs [Tryz.f66, h1]
    refine bind_go (tail ro _ ?_) ?_
    · simp [bwS]
    · simp [bwS, hb]
  · have tail : ∀ (ro : Nat) (S : St), S.hav [3, 4] = bwS .nil c.next 0 gl ro → loopC Tryz.prog cf 66 (ev k) k (bodyOf Tryz.f66 0) S = some (.ret, st 34 [(2, V.int .i64 (btw c.next))] [] [] gl ro) := fun ro S hS => (h2 gl ro k S (by omega) hS).trans (congrArg some (if_pos hb))
    simp -implicitDefEqProofs [Tryz.f66, h1]
    refine bind_go (tail ro _ ?_) ?_
    · simp [bwS]
    · simp
end Go.Proofs.YtkklkkppedociaaGreatDoor.Ev

/- Layer 6: the program's expressions of the last level. -/
set_option linter.unusedVariables false
set_option linter.unusedSimpArgs false
set_option maxRecDepth 100000
set_option maxHeartbeats 4000000
namespace Go.Proofs.YtkklkkppedociaaGreatDoor.Ev
open Go Go.RowKit

abbrev rdr (o : Nat) : C := .agg [.glo o 0]
theorem take_no' {c : Cu} (hk : c.Ok) (kd : Int) (t : List UInt8) (h : ¬ c.is kd t = true) : Evt fun k => ∀ gl o ro, (gl : List (List W))[o]? = some c.w → ro ≤ o → ev k 54 [.w (.glo o 0), I kd, T t] ro gl = some (V.bool false, gl) := by
  refine (take_c hk kd t).imp fun k q gl o ro hg hro => ?_
  have := q gl o ro hg hro
  rw [Cu.take, if_neg h, set_same hg, show c.is kd t = false by simpa using h] at this
  exact this
theorem take_yes {c : Cu} (hk : c.Ok) (kd : Int) (t : List UInt8) (h : c.is kd t = true) : Evt fun k => ∀ gl o ro, (gl : List (List W))[o]? = some c.w → ro ≤ o → ev k 54 [.w (.glo o 0), I kd, T t] ro gl = some (V.bool true, gl.set o c.on.w) := by
  refine (take_c hk kd t).imp fun k q gl o ro hg hro => ?_
  have := q gl o ro hg hro
  rw [Cu.take, if_pos h, h] at this
  exact this
/-- What the program's reader does. -/
def RdF (f : Nat) (rec : Nat → Cu → Cu × List Tm) (n : Nat) : Prop := ∀ d : Cu, d.Ok → d.r.length < n → ∀ k : Nat, 1 ≤ k → k ≤ 7 → DoesU f (fun o => [rdr o, I k]) d.w (.c (L ((rec k d).2.map Tm.c))) (rec k d).1.w
section
variable {rec : Nat → Cu → Cu × List Tm} (hfine : ∀ k c, Fine (rec k c) c) {n : Nat} (hrec : RdF 31 rec n)
include hfine hrec
theorem two_ev {c : Cu} (hk : c.Ok) (hn : c.r.length < n) (hN : n < 100000) (op : Int) : DoesU 138 (fun o => [rdr o, I op]) c.w (.c (L ((twoP rec op c).2.map Tm.c))) (twoP rec op c).1.w := by
  have w1 := c.want_le 3 [40]
  obtain ⟨a1, a2⟩ := hfine 1 (c.want 3 [40])
  have w2 := ((rec 1 (c.want 3 [40])).1.want_le 3 [44])
  obtain ⟨b1, b2⟩ := hfine 1 ((rec 1 (c.want 3 [40])).1.want 3 [44])
  have e1 := w1.2
  have e2 := a1.2
  have e3 := w2.2
  have o1 := w1.1 hk
  have o2 := a1.1 o1
  have o3 := w2.1 o2
  have o4 := b1.1 o3
  have hj := join_ev op [(rec 1 (c.want 3 [40])).2, (rec 1 ((rec 1 (c.want 3 [40])).1.want 3 [44])).2] (by simp) (by simp; omega)
  refine .intro Tryz.func138 (by kernel_rfl) (((want_c hk 3 [40]).and ((hrec _ o1 (by omega) 1 (by omega) (by omega)).and ((want_c o2 3 [44]).and ((hrec _ o3 (by omega) 1 (by omega) (by omega)).and ((want_c o4 3 [41]).and hj))))).imp fun k ⟨h1, h2, h3, h4, h5, h6⟩ gl o ro hg hro => ?_)
  have h1 := h1 gl o ro hg hro
  have h2 := h2 _ o ro (get_set hg _) hro
  have h3 := h3 _ o ro (get_set hg _) hro
  have h4 := h4 _ o ro (get_set hg _) hro
  have h5 := h5 _ o ro (get_set hg _) hro
  clear hfine hrec
  simp only [twoP] at *
  clear e1 e2 e3 a1 a2 b1 b2 w1 w2 hj
  generalize hd2 : c.want 3 [40] = d2 at *
  generalize hd3 : rec 1 d2 = q at *
  obtain ⟨d3, x⟩ := q
  simp only at h2 h3 h4 h5 h6 ⊢
  generalize hd4 : d3.want 3 [44] = d4 at *
  generalize hd5 : rec 1 d4 = q2 at *
  obtain ⟨d5, y⟩ := q2
  simp only at h4 h5 h6 ⊢
  generalize hd6 : d5.want 3 [41] = d6 at *
  simp only [List.set_set] at h2 h3 h4 h5
  have hov : (⟨op, 0, []⟩ :: [x, y].flatten : List Tm) = over op x y := by simp [over]
  rw [hov] at h6
  generalize over op x y = ov at h6 ⊢
  simp at h2 h4 h6
  simp -implicitDefEqProofs [Tryz.f138, h1, h2, h3, h4, h5, h6]
omit hfine hrec in
theorem isF {c : Cu} {k : Int} {t : List UInt8} (h : ¬ (c.next.kind = k ∧ c.next.text = t)) : ¬ c.is k t = true := by
  intro hh
  simp only [Cu.is, Bool.and_eq_true, decide_eq_true_eq] at hh
  exact h ⟨hh.2.1, hh.2.2⟩
omit hfine hrec in
theorem isT {c : Cu} {k : Int} {t : List UInt8} (he : c.e = 0) (h1 : c.next.kind = k) (h2 : c.next.text = t) : c.is k t = true := by
  simp [Cu.is, he, h1, h2]
theorem pAtom_ev {c : Cu} (hk : c.Ok) (he : c.e = 0) (hn : c.r.length < n + 1) (hN : n < 100000) : DoesU 112 (fun o => [rdr o]) c.w (.c (L ((atomP rec c).2.map Tm.c))) (atomP rec c).1.w := by
  unfold atomP
  have hj1 : ∀ op : Int, Gives 69 [I op, L []] (.c (L (([⟨op, 0, []⟩] : List Tm).map Tm.c))) := fun op => by
    have := join_ev op [] (by simp) (by simp)
    exact this
  by_cases k2 : c.next.kind = 2
  · rw [if_pos k2]
    refine .intro Tryz.func112 (by kernel_rfl) (((next_c hk).and (number_c hk 1000000)).imp fun k ⟨h1, h2⟩ gl o ro hg hro => ?_)
    have h1 := fun ro => h1 gl o ro hg
    have h2 := h2 gl o ro hg hro
    generalize c.number 1000000 = q at h2 ⊢
    obtain ⟨d, x⟩ := q
    simp [Tk.w, k2] at h1
    simp at h2
    simp -implicitDefEqProofs [Tryz.f112, Tm.c, h1, h2]
  · rw [if_neg k2]
    by_cases kp : c.is 3 [40] = true
    · rw [if_pos kp]
      obtain ⟨_, hr⟩ := Cu.is_real kp (by simp)
      have kp' := kp
      simp only [Cu.is, Bool.and_eq_true, decide_eq_true_eq] at kp'
      have k3 := kp'.2.1
      have f1 : ∀ t, ¬ c.is 1 t = true := fun t => isF (fun h => by rw [k3] at h; exact absurd h.1 (by decide))
      obtain ⟨a1, a2⟩ := hfine 1 c.on
      refine .intro Tryz.func112 (by kernel_rfl) (((next_c hk).and ((take_no' hk 1 bTrue (f1 _)).and ((take_no' hk 1 bFalse (f1 _)).and ((take_no' hk 1 bMin (f1 _)).and ((take_no' hk 1 bMax (f1 _)).and ((take_yes hk 3 [40] kp).and ((hrec c.on hk.on (by omega) 1 (by omega) (by omega)).and (want_c (a1.1 hk.on) 3 [41])))))))).imp fun k ⟨h1, h2, h3, h4, h5, h6, h7, h8⟩ gl o ro hg hro => ?_)
      have h1 := fun ro => h1 gl o ro hg
      have h2 := h2 gl o ro hg hro
      have h3 := h3 gl o ro hg hro
      have h4 := h4 gl o ro hg hro
      have h5 := h5 gl o ro hg hro
      have h6 := h6 gl o ro hg hro
      have h7 := h7 _ o ro (get_set hg _) hro
      have h8 := h8 _ o ro (get_set hg _) hro
      simp only [List.set_set] at h7 h8
      generalize rec 1 c.on = q at h7 h8 ⊢
      obtain ⟨d, x⟩ := q
      simp only at h7 h8 ⊢
      simp [Tk.w, k3] at h1
      simp at h7
      simp -implicitDefEqProofs [Tryz.f112, h1, h2, h3, h4, h5, h6, h7, h8]
    · rw [if_neg kp]
      by_cases k1 : c.next.kind = 1
      rotate_left
      · rw [if_pos k1]
        have f1 : ∀ t, ¬ c.is 1 t = true := fun t => isF (fun h => k1 h.1)
        refine .intro Tryz.func112 (by kernel_rfl) (((next_c hk).and ((take_no' hk 1 bTrue (f1 _)).and ((take_no' hk 1 bFalse (f1 _)).and ((take_no' hk 1 bMin (f1 _)).and ((take_no' hk 1 bMax (f1 _)).and ((take_no' hk 3 [40] kp).and ((take_no' hk 1 bIn (f1 _)).and (fail_c hk 2)))))))).imp fun k ⟨h1, h2, h3, h4, h5, h6, h7, h8⟩ gl o ro hg hro => ?_)
        have h1 := fun ro => h1 gl o ro hg
        have h2 := h2 gl o ro hg hro
        have h3 := h3 gl o ro hg hro
        have h4 := h4 gl o ro hg hro
        have h5 := h5 gl o ro hg hro
        have h6 := h6 gl o ro hg hro
        have h7 := h7 gl o ro hg hro
        have h8 := h8 gl o ro hg hro
        simp [Tk.w] at h1
        simp -implicitDefEqProofs [Tryz.f112, h1, h2, h3, h4, h5, h6, h7, h8, k1, k2]
      · rw [if_neg (by simp [k1])]
        obtain ⟨_, hr⟩ := Cu.next_real (c := c) (.inr (by rw [k1]; simp))
        by_cases t1 : c.next.text = bTrue
        · rw [if_pos t1]
          refine .intro Tryz.func112 (by kernel_rfl) (((next_c hk).and ((take_yes hk 1 bTrue (isT he k1 t1)).and (hj1 9))).imp fun k ⟨h1, h2, h3⟩ gl o ro hg hro => ?_)
          have h1 := fun ro => h1 gl o ro hg
          have h2 := h2 gl o ro hg hro
          simp [Tk.w, k1] at h1
          simp at h3
          simp -implicitDefEqProofs [Tryz.f112, h1, h2, h3]
        · rw [if_neg t1]
          have n1 := take_no' hk 1 bTrue (isF fun h => t1 h.2)
          by_cases t2 : c.next.text = bFalse
          · rw [if_pos t2]
            refine .intro Tryz.func112 (by kernel_rfl) (((next_c hk).and (n1.and ((take_yes hk 1 bFalse (isT he k1 t2)).and (hj1 10)))).imp fun k ⟨h1, h0, h2, h3⟩ gl o ro hg hro => ?_)
            have h1 := fun ro => h1 gl o ro hg
            have h0 := h0 gl o ro hg hro
            have h2 := h2 gl o ro hg hro
            simp [Tk.w, k1] at h1
            simp at h3
            simp -implicitDefEqProofs [Tryz.f112, h1, h0, h2, h3]
          · rw [if_neg t2]
            have n2 := take_no' hk 1 bFalse (isF fun h => t2 h.2)
            by_cases t3 : c.next.text = bIn
            · rw [if_pos t3]
              have n3 := take_no' hk 1 bMin (isF fun h => by rw [t3] at h; exact absurd h.2 (by decide))
              have n4 := take_no' hk 1 bMax (isF fun h => by rw [t3] at h; exact absurd h.2 (by decide))
              have w1 := c.on.want_le 3 [40]
              have w2 := (c.on.want 3 [40]).name_le
              refine .intro Tryz.func112 (by kernel_rfl) (((next_c hk).and (n1.and (n2.and (n3.and (n4.and ((take_no' hk 3 [40] kp).and ((take_yes hk 1 bIn (isT he k1 t3)).and ((want_c hk.on 3 [40]).and ((name_c (w1.1 hk.on)).and (want_c (w2.1 (w1.1 hk.on)) 3 [41])))))))))).imp fun k ⟨h1, h2, h3, h4, h5, h6, h7, h8, h9, h10⟩ gl o ro hg hro => ?_)
              have h1 := fun ro => h1 gl o ro hg
              have h2 := h2 gl o ro hg hro
              have h3 := h3 gl o ro hg hro
              have h4 := h4 gl o ro hg hro
              have h5 := h5 gl o ro hg hro
              have h6 := h6 gl o ro hg hro
              have h7 := h7 gl o ro hg hro
              have h8 := h8 _ o ro (get_set hg _) hro
              have h9 := h9 _ o ro (get_set hg _) hro
              have h10 := h10 _ o ro (get_set hg _) hro
              simp only [List.set_set] at h8 h9 h10
              generalize c.on.want 3 [40] = d at h8 h9 h10 ⊢
              generalize d.name = q at h9 h10 ⊢
              obtain ⟨d2, x⟩ := q
              simp only at h9 h10 ⊢
              simp [Tk.w, k1] at h1
              simp -implicitDefEqProofs [Tryz.f112, Tm.c, h1, h2, h3, h4, h5, h6, h7, h8, h9, h10]
            · rw [if_neg t3]
              have n5 := take_no' hk 1 bIn (isF fun h => t3 h.2)
              by_cases t4 : c.next.text = bMin
              · rw [if_pos t4]
                refine .intro Tryz.func112 (by kernel_rfl) (((next_c hk).and (n1.and (n2.and ((take_yes hk 1 bMin (isT he k1 t4)).and (two_ev hfine hrec hk.on (by omega) hN 7))))).imp fun k ⟨h1, h2, h3, h4, h5⟩ gl o ro hg hro => ?_)
                have h1 := fun ro => h1 gl o ro hg
                have h2 := h2 gl o ro hg hro
                have h3 := h3 gl o ro hg hro
                have h4 := h4 gl o ro hg hro
                have h5 := h5 _ o ro (get_set hg _) hro
                simp only [List.set_set] at h5
                generalize twoP rec 7 c.on = q at h5 ⊢
                obtain ⟨d2, x⟩ := q
                simp only at h5 ⊢
                simp [Tk.w, k1] at h1
                simp -implicitDefEqProofs [Tryz.f112, h1, h2, h3, h4, h5]
              · rw [if_neg t4]
                have n3 := take_no' hk 1 bMin (isF fun h => t4 h.2)
                by_cases t5 : c.next.text = bMax
                · rw [if_pos t5]
                  refine .intro Tryz.func112 (by kernel_rfl) (((next_c hk).and (n1.and (n2.and (n3.and ((take_yes hk 1 bMax (isT he k1 t5)).and (two_ev hfine hrec hk.on (by omega) hN 8)))))).imp fun k ⟨h1, h2, h3, h0, h4, h5⟩ gl o ro hg hro => ?_)
                  have h1 := fun ro => h1 gl o ro hg
                  have h2 := h2 gl o ro hg hro
                  have h3 := h3 gl o ro hg hro
                  have h0 := h0 gl o ro hg hro
                  have h4 := h4 gl o ro hg hro
                  have h5 := h5 _ o ro (get_set hg _) hro
                  simp only [List.set_set] at h5
                  generalize twoP rec 8 c.on = q at h5 ⊢
                  obtain ⟨d2, x⟩ := q
                  simp only at h5 ⊢
                  simp [Tk.w, k1] at h1
                  simp -implicitDefEqProofs [Tryz.f112, h1, h2, h3, h0, h4, h5]
                · rw [if_neg t5]
                  have n4 := take_no' hk 1 bMax (isF fun h => t5 h.2)
                  by_cases t6 : isName c.next.text = true
                  · rw [if_pos t6]
                    have hnm : c.name = (c.on, c.next.text) := by unfold Cu.name; rw [if_pos (by simp [Cu.named, he, k1, t6])]
                    have hnc := name_c hk
                    rw [hnm] at hnc
                    refine .intro Tryz.func112 (by kernel_rfl) (((next_c hk).and (n1.and (n2.and (n3.and (n4.and ((take_no' hk 3 [40] kp).and (n5.and ((nIs_ev _ hk.next).and hnc)))))))).imp fun k ⟨h1, h2, h3, h4, h5, h6, h7, h8, h9⟩ gl o ro hg hro => ?_)
                    have h1 := fun ro => h1 gl o ro hg
                    have h2 := h2 gl o ro hg hro
                    have h3 := h3 gl o ro hg hro
                    have h4 := h4 gl o ro hg hro
                    have h5 := h5 gl o ro hg hro
                    have h6 := h6 gl o ro hg hro
                    have h7 := h7 gl o ro hg hro
                    have h9 := h9 gl o ro hg hro
                    rw [t6] at h8
                    simp [Tk.w, k1] at h1
                    simp at h8 h9
                    simp -implicitDefEqProofs [Tryz.f112, Tm.c, h1, h2, h3, h4, h5, h6, h7, h8, h9]
                  · rw [if_neg t6]
                    refine .intro Tryz.func112 (by kernel_rfl) (((next_c hk).and (n1.and (n2.and (n3.and (n4.and ((take_no' hk 3 [40] kp).and (n5.and ((nIs_ev _ hk.next).and (fail_c hk 2))))))))).imp fun k ⟨h1, h2, h3, h4, h5, h6, h7, h8, h9⟩ gl o ro hg hro => ?_)
                    have h1 := fun ro => h1 gl o ro hg
                    have h2 := h2 gl o ro hg hro
                    have h3 := h3 gl o ro hg hro
                    have h4 := h4 gl o ro hg hro
                    have h5 := h5 gl o ro hg hro
                    have h6 := h6 gl o ro hg hro
                    have h7 := h7 gl o ro hg hro
                    have h9 := h9 gl o ro hg hro
                    rw [show isName c.next.text = false by simpa using t6] at h8
                    simp [Tk.w, k1] at h1
                    simp -implicitDefEqProofs [Tryz.f112, h1, h2, h3, h4, h5, h6, h7, h8, h9]
omit hfine hrec in
theorem pAtom_bad {c : Cu} (hk : c.Ok) (he : ¬ c.e = 0) : DoesU 112 (fun o => [rdr o]) c.w (.c (L [])) c.w := by
  have f : ∀ k t, ¬ c.is k t = true := fun k t h => by
    simp only [Cu.is, Bool.and_eq_true, decide_eq_true_eq] at h
    exact he h.1
  have hf : c.fail 2 = c := by unfold Cu.fail; rw [if_neg (fun h => he h.1)]
  have hfc := fail_c hk 2
  rw [hf] at hfc
  refine .intro Tryz.func112 (by kernel_rfl) (((next_c hk).and ((take_no' hk 1 bTrue (f _ _)).and ((take_no' hk 1 bFalse (f _ _)).and ((take_no' hk 1 bMin (f _ _)).and ((take_no' hk 1 bMax (f _ _)).and ((take_no' hk 3 [40] (f _ _)).and ((take_no' hk 1 bIn (f _ _)).and hfc))))))).imp fun k ⟨h1, h2, h3, h4, h5, h6, h7, h8⟩ gl o ro hg hro => ?_)
  have hnx : c.next = tk0 := by unfold Cu.next; rw [if_neg he]
  rw [hnx] at h1
  have h1 := fun ro => h1 gl o ro hg
  have h2 := h2 gl o ro hg hro
  have h3 := h3 gl o ro hg hro
  have h4 := h4 gl o ro hg hro
  have h5 := h5 gl o ro hg hro
  have h6 := h6 gl o ro hg hro
  have h7 := h7 gl o ro hg hro
  have h8 := h8 gl o ro hg hro
  simp [Tk.w, tk0] at h1
  simp -implicitDefEqProofs [Tryz.f112, h1, h2, h3, h4, h5, h6, h7, h8]
end
end Go.Proofs.YtkklkkppedociaaGreatDoor.Ev
