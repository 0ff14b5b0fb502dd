/- Layer 6: the program's lists; which sign is next. -/
import Derived.Test.YtckonoejmjblfaaGreatDoorPkExpA
set_option linter.unusedVariables false
set_option linter.unusedSimpArgs false
set_option maxRecDepth 100000
set_option maxHeartbeats 4000000
namespace Go.Proofs.YtckonoejmjblfaaGreatDoor.Ev
open Go Go.RowKit

abbrev tlD (b : List Tm) : List D := [.sl (b.map Tm.c)]
abbrev opC (op : Int) : List D := [.int .i64 op, .int .i64 0, .str []]
def jV (op : Int) (l : List Tm) : V := if l = [] then .c (.w (.full [opC op])) else .c (.w (.app 19 (opC op :: l.map Tm.c)))
def jS (op : Int) (bs : List (List Tm)) (i : Nat) (l : List Tm) (s : Bool) (gl : List (List W)) (ro : Nat) : St :=
  st 22 [(5, jV op l), (11, .c (L (bs.map tlD))), (12, V.int .i64 bs.length), (13, V.int .i64 i), (19, if s then jV op l else V.un)] [] (if l = [] then [] else [(19, ⟨l.length + 1, 44, 3⟩)]) gl ro
theorem jn_round (call : Caller) (N : Nat) (op : Int) (bs : List (List Tm)) (hbs : bs.length < 1000000) (i : Nat) (b l : List Tm) (hb : bs[i]? = some b) (hl : l.length + b.length < 1000000) (s : Bool) (hs : l ≠ [] → s = true) (gl : List (List W)) (ro : Nat) :
    (evC Tryz.prog cf 261 call N (bodyOf Tryz.f261 0) (jS op bs i l s gl ro)).map (hv [5, 11, 12, 13, 19]) = some (.normal, jS op bs (i + 1) (l ++ b) true gl ro) := by
  have hlt : i < bs.length := (List.getElem?_eq_some_iff.1 hb).1
  have hlt' : (i : Int) < bs.length := by omega
  have hbe : bs[i] = b := (List.getElem?_eq_some_iff.1 hb).2
  have w : IntKind.i64.wrap ((i : Int) + 1) = (i : Int) + 1 := i64w _ (by omega)
  have g3 : (1 + b.length) * 32 ≤ 140737488355328 := by omega
  have g4 : 1 + b.length ≤ 9223372036854775807 := by omega
  have k3 : (l.length + 1 + b.length) * 32 ≤ 140737488355328 := by omega
  have k4 : l.length + 1 + b.length ≤ 9223372036854775807 := by omega
  have c1 : b.length + 1 = 1 + b.length := by omega
  have c2 : l.length + b.length + 1 = l.length + 1 + b.length := by omega
  by_cases h0 : l = []
  · subst h0
    by_cases h1 : b = []
    · subst h1
      cases s
      · simp -implicitDefEqProofs [jS, jV, bodyOf, loopsOf, hv, Tryz.f261, hlt, hlt', hbe, w]
      · simp -implicitDefEqProofs [jS, jV, bodyOf, loopsOf, hv, Tryz.f261, hlt, hlt', hbe, w]
    · have hb0 : 0 < b.length := List.length_pos_iff.2 h1
      cases s
      · simp -implicitDefEqProofs [jS, jV, bodyOf, loopsOf, hv, Tryz.f261, hlt, hlt', hbe, w, h1, hb0, g3, g4, Tm.c_len, c1]
      · simp -implicitDefEqProofs [jS, jV, bodyOf, loopsOf, hv, Tryz.f261, hlt, hlt', hbe, w, h1, hb0, g3, g4, Tm.c_len, c1]
  · have hs' := hs h0
    subst hs'
    by_cases h1 : b = []
    · subst h1
      simp -implicitDefEqProofs [jS, jV, bodyOf, loopsOf, hv, Tryz.f261, hlt, hlt', hbe, w, h0]
    · have hb0 : 0 < b.length := List.length_pos_iff.2 h1
      simp -implicitDefEqProofs [jS, jV, bodyOf, loopsOf, hv, Tryz.f261, hlt, hlt', hbe, w, h0, h1, hb0, k3, k4, Tm.c_len, c2]
theorem jn_loop (call : Caller) (N : Nat) (op : Int) (bs : List (List Tm)) (hbs : bs.length < 1000000) (gl : List (List W)) (ro : Nat) : ∀ (r p : List (List Tm)) (l : List Tm) (s : Bool) (n : Nat) (S : St), bs = p ++ r → (l ≠ [] → s = true) → l.length + r.flatten.length < 1000000 → r.length < n → S.hav [5, 11, 12, 13, 19] = jS op bs p.length l s gl ro → ∃ s' : Bool, True ∧
    loopA (evC Tryz.prog cf 261 call N (bodyOf Tryz.f261 0)) [5, 11, 12, 13, 19] [] n S = some (.exit 0, jS op bs bs.length (l ++ r.flatten) s' gl ro)
  | [], p, l, s, n, S, hp, hs, hl, hn, hS => by
    refine ⟨s, trivial, ?_⟩
    obtain ⟨n, rfl⟩ : ∃ m, n = m + 1 := ⟨n - 1, by omega⟩
    have : p = bs := by simpa using hp.symm
    subst this
    refine loop_exit ?_
    rw [hS]
    simp only [List.flatten_nil, List.append_nil]
    by_cases h0 : l = []
    · cases s <;> simp -implicitDefEqProofs [jS, jV, h0, bodyOf, loopsOf, hv, Tryz.f261]
    · have hs' := hs h0
      subst hs'
      simp -implicitDefEqProofs [jS, jV, h0, bodyOf, loopsOf, hv, Tryz.f261]
  | b :: r, p, l, s, n, S, hp, hs, hl, hn, hS => by
    obtain ⟨n, rfl⟩ : ∃ m, n = m + 1 := ⟨n - 1, by omega⟩
    rw [List.flatten_cons, List.length_append] at hl
    have hb : bs[p.length]? = some b := by rw [hp]; simp
    have r1 := jn_round call N op bs hbs p.length b l hb (by omega) s hs gl ro
    rw [← hS] at r1
    obtain ⟨S', hS', e⟩ := loop_on r1
    obtain ⟨s', _, h⟩ := jn_loop call N op bs hbs gl ro r (p ++ [b]) (l ++ b) true n S' (by rw [hp]; simp) (fun _ => rfl) (by rw [List.length_append]; omega) (by simpa using hn) (by simpa using hS')
    exact ⟨s', trivial, by rw [e, h, List.flatten_cons, List.append_assoc]⟩
theorem bind_ex2 {α β ι : Type} {x : Option α} {f : α → Option β} {z : Option β} {p : ι → Prop} {v : ι → α} (h : ∃ i, p i ∧ x = some (v i)) (k : ∀ i, p i → f (v i) = z) : x.bind f = z := by
  obtain ⟨i, h1, h2⟩ := h
  rw [h2]
  exact k i h1
theorem join_ev (op : Int) (bs : List (List Tm)) (hbs : bs.length < 1000000) (hl : bs.flatten.length < 1000000) : Gives 261 [I op, L (bs.map tlD)] (.c (L ((⟨op, 0, []⟩ :: bs.flatten : List Tm).map Tm.c))) := by
  refine .intro Tryz.func261 (by kernel_rfl) ((Evt.ge (bs.length + 1)).imp fun k hk ro gl => ?_)
  have tail : ∀ S : St, S.hav [5, 11, 12, 13, 19] = jS op bs 0 [] false gl gl.length → ∃ s' : Bool, True ∧ loopC Tryz.prog cf 261 (ev k) k (bodyOf Tryz.f261 0) S = some (.exit 0, jS op bs bs.length bs.flatten s' gl gl.length) := fun S hS => jn_loop (ev k) k op bs hbs gl gl.length bs [] [] false k S rfl (fun h => absurd rfl h) (by simpa using hl) (by omega) hS
  generalize bs.flatten = fl at tail hl ⊢
  simp -implicitDefEqProofs [Tryz.f261]
  refine bind_ex2 (tail _ ?_) fun b _ => ?_
  · simp [jS, jV]
  · by_cases h0 : fl = []
    · cases b <;> simp [jS, jV, h0, Tm.c]
    · cases b <;> simp [jS, jV, h0, Tm.c]
/-! which sign is next -/
def bwF (t : Tk) (i : Nat) : Int := ((allOps.drop i).find? fun op => decide (signB op ≠ []) && decide (signB op = t.text)).getD 0
def bwS (x : W) (t : Tk) (i : Nat) (gl : List (List W)) (ro : Nat) : St := st 34 [(3, .c (.w (.box 3 0))), (4, V.int .i64 ((i : Int) + 4))] [(3, [.d (.int .i64 t.kind), .d (.str t.text), .d (.int .i64 t.ln), .d (.int .i64 t.cl)])] [] gl ro
theorem allOps_get {i : Nat} (h : i < 17) : allOps[i]? = some ((i : Int) + 4) := by
  have : i = 0 ∨ i = 1 ∨ i = 2 ∨ i = 3 ∨ i = 4 ∨ i = 5 ∨ i = 6 ∨ i = 7 ∨ i = 8 ∨ i = 9 ∨ i = 10 ∨ i = 11 ∨ i = 12 ∨ i = 13 ∨ i = 14 ∨ i = 15 ∨ i = 16 := by omega
  rcases this with h | h | h | h | h | h | h | h | h | h | h | h | h | h | h | h | h <;> subst h <;> rfl
theorem allOps_drop {i : Nat} (h : i < 17) : allOps.drop i = ((i : Int) + 4) :: allOps.drop (i + 1) := by
  have hl : i < allOps.length := h
  rw [List.drop_eq_getElem_cons hl]
  congr 1
  exact Option.some.inj ((List.getElem?_eq_getElem hl).symm.trans (allOps_get h))
theorem bw_loop (t : Tk) (x : W) : Evt fun k => ∀ gl ro n S, 18 < n → S.hav [3, 4] = bwS x t 0 gl ro →
    loopA (evC Tryz.prog cf 260 (ev k) k (bodyOf Tryz.f260 0)) [3, 4] [2] n S = some (if btw t ≠ 0 then (.ret, st 34 [(2, V.int .i64 (btw t))] [] [] gl ro) else (.exit 0, bwS x t 17 gl ro)) := by
  refine sign_ev.imp fun k hsg gl ro n S hn hS => ?_
  refine loop_by (keep := [3, 4]) (res := [2]) (fun i : Nat => bwS x t i gl ro) (fun i => i ≤ 17) (fun i => 17 - i) (fun i => if (t.kind = 3 ∨ t.kind = 1) ∧ bwF t i ≠ 0 then (.ret, st 34 [(2, V.int .i64 (bwF t i))] [] [] gl ro) else (.exit 0, bwS x t 17 gl ro)) ?_ n 0 S (by omega) (by omega) hS |>.trans ?_
  · intro i hi
    by_cases h17 : i = 17
    · subst h17
      refine .inr (.inl ⟨0, bwS x t 17 gl ro, ?_, ?_⟩)
      · simp -implicitDefEqProofs [bwS, bodyOf, loopsOf, hv, Tryz.f260]
      · rw [if_neg]; rintro ⟨_, h⟩; exact h rfl
    · have hlt : i < 17 := by omega
      have hs := fun ro gl => hsg ((i : Int) + 4) ro gl (by omega) (by omega)
      have hd := allOps_drop hlt
      have g1 : (i : Int) + 4 ≤ 20 := by omega
      have w : IntKind.i64.wrap ((i : Int) + 4 + 1) = (i : Int) + 1 + 4 := by rw [i64w _ (by omega)]; omega
      have w2 : ((i + 1 : Nat) : Int) + 4 = (i : Int) + 1 + 4 := by omega
      have hF : bwF t i = if signB ((i : Int) + 4) ≠ [] ∧ signB ((i : Int) + 4) = t.text then (i : Int) + 4 else bwF t (i + 1) := by
        unfold bwF
        rw [hd, List.find?_cons]
        by_cases hc : signB ((i : Int) + 4) ≠ [] ∧ signB ((i : Int) + 4) = t.text
        · rw [if_pos hc, decide_eq_true hc.1, decide_eq_true hc.2]; rfl
        · rw [if_neg hc]
          have : (decide (signB ((i : Int) + 4) ≠ []) && decide (signB ((i : Int) + 4) = t.text)) = false := by
            simp only [Bool.and_eq_false_iff, decide_eq_false_iff_not]
            by_cases h1 : signB ((i : Int) + 4) ≠ []
            · exact .inr fun h2 => hc ⟨h1, h2⟩
            · exact .inl h1
          rw [this]
      generalize signB ((i : Int) + 4) = sg at hs hF
      by_cases h1 : sg = []
      · refine .inl ⟨i + 1, by omega, by omega, ?_, ?_⟩
        · simp -implicitDefEqProofs [bwS, bodyOf, loopsOf, hv, Tryz.f260, hs, g1, w, w2, h1]
        · rw [show bwF t i = bwF t (i + 1) by rw [hF, if_neg (fun h => h.1 h1)]]
      · by_cases h2 : sg = t.text
        · subst h2
          have h2 : True := trivial
          by_cases h3 : t.kind = 3
          · refine .inr (.inr ⟨st 34 [(2, V.int .i64 ((i : Int) + 4))] [] [] gl ro, ?_, ?_⟩)
            · simp -implicitDefEqProofs [bwS, bodyOf, loopsOf, hv, Tryz.f260, hs, g1, w, w2, h1, h2, h3]
            · rw [show bwF t i = (i : Int) + 4 by rw [hF, if_pos ⟨h1, rfl⟩], if_pos ⟨.inl h3, by omega⟩]
          · by_cases h4 : t.kind = 1
            · refine .inr (.inr ⟨st 34 [(2, V.int .i64 ((i : Int) + 4))] [] [] gl ro, ?_, ?_⟩)
              · simp -implicitDefEqProofs [bwS, bodyOf, loopsOf, hv, Tryz.f260, hs, g1, w, w2, h1, h2, h3, h4]
              · rw [show bwF t i = (i : Int) + 4 by rw [hF, if_pos ⟨h1, rfl⟩], if_pos ⟨.inr h4, by omega⟩]
            · refine .inl ⟨i + 1, by omega, by omega, ?_, ?_⟩
              · simp -implicitDefEqProofs [bwS, bodyOf, loopsOf, hv, Tryz.f260, hs, g1, w, w2, h1, h2, h3, h4]
              · rw [if_neg (fun h => h.1.elim h3 h4), if_neg (fun h => h.1.elim h3 h4)]
        · refine .inl ⟨i + 1, by omega, by omega, ?_, ?_⟩
          · simp -implicitDefEqProofs [bwS, bodyOf, loopsOf, hv, Tryz.f260, hs, g1, w, w2, h1, h2]
          · rw [show bwF t i = bwF t (i + 1) by rw [hF, if_neg (fun h => h2 h.2)]]
  · have : btw t = if t.kind = 3 ∨ t.kind = 1 then bwF t 0 else 0 := rfl
    rw [this]
    by_cases hk : t.kind = 3 ∨ t.kind = 1
    · rw [if_pos hk]
      by_cases h0 : bwF t 0 = 0
      · rw [if_neg (fun h => h.2 h0), if_neg (fun h => h h0)]
      · rw [if_pos ⟨hk, h0⟩, if_pos h0]
    · rw [if_neg (fun h => hk h.1), if_neg hk, if_neg (fun h => h rfl)]
theorem between_ev {c : Cu} (hk : c.Ok) : ReadsU 260 (fun o => [.agg [.glo o 0]]) c.w (V.int .i64 (btw c.next)) := by
  refine .intro Tryz.func260 (by kernel_rfl) (((next_c hk).and ((bw_loop c.next .nil).and (Evt.ge 19))).imp fun k ⟨h1, h2, hK⟩ gl o ro hg => ?_)
  have h1 := fun ro => h1 gl o ro hg
  simp [Tk.w] at h1
  by_cases hb : btw c.next = 0
  · have tail : ∀ (ro : Nat) (S : St), S.hav [3, 4] = bwS .nil c.next 0 gl ro → loopC Tryz.prog cf 260 (ev k) k (bodyOf Tryz.f260 0) S = some (.exit 0, bwS .nil c.next 17 gl ro) := fun ro S hS => (h2 gl ro k S (by omega) hS).trans (congrArg some (if_neg (by simp [hb])))
    simp -implicitDefEqProofs [Tryz.f260, h1]
    refine bind_go (tail ro _ ?_) ?_
    · simp [bwS]
    · simp [bwS, hb]
  · have tail : ∀ (ro : Nat) (S : St), S.hav [3, 4] = bwS .nil c.next 0 gl ro → loopC Tryz.prog cf 260 (ev k) k (bodyOf Tryz.f260 0) S = some (.ret, st 34 [(2, V.int .i64 (btw c.next))] [] [] gl ro) := fun ro S hS => (h2 gl ro k S (by omega) hS).trans (congrArg some (if_pos hb))
    simp -implicitDefEqProofs [Tryz.f260, h1]
    refine bind_go (tail ro _ ?_) ?_
    · simp [bwS]
    · simp
end Go.Proofs.YtckonoejmjblfaaGreatDoor.Ev

/- Layer 6: the program's expressions of the last level. -/
set_option linter.unusedVariables false
set_option linter.unusedSimpArgs false
set_option maxRecDepth 100000
set_option maxHeartbeats 4000000
namespace Go.Proofs.YtckonoejmjblfaaGreatDoor.Ev
open Go Go.RowKit

abbrev rdr (o : Nat) : C := .agg [.glo o 0]
theorem take_no' {c : Cu} (hk : c.Ok) (kd : Int) (t : List UInt8) (h : ¬ c.is kd t = true) : Evt fun k => ∀ gl o ro, (gl : List (List W))[o]? = some c.w → ro ≤ o → ev k 83 [.w (.glo o 0), I kd, T t] ro gl = some (V.bool false, gl) := by
  refine (take_c hk kd t).imp fun k q gl o ro hg hro => ?_
  have := q gl o ro hg hro
  rw [Cu.take, if_neg h, set_same hg, show c.is kd t = false by simpa using h] at this
  exact this
theorem take_yes {c : Cu} (hk : c.Ok) (kd : Int) (t : List UInt8) (h : c.is kd t = true) : Evt fun k => ∀ gl o ro, (gl : List (List W))[o]? = some c.w → ro ≤ o → ev k 83 [.w (.glo o 0), I kd, T t] ro gl = some (V.bool true, gl.set o c.on.w) := by
  refine (take_c hk kd t).imp fun k q gl o ro hg hro => ?_
  have := q gl o ro hg hro
  rw [Cu.take, if_pos h, h] at this
  exact this
/-- What the program's reader does. -/
def RdF (f : Nat) (rec : Nat → Cu → Cu × List Tm) (n : Nat) : Prop := ∀ d : Cu, d.Ok → d.r.length < n → ∀ k : Nat, 1 ≤ k → k ≤ 7 → DoesU f (fun o => [rdr o, I k]) d.w (.c (L ((rec k d).2.map Tm.c))) (rec k d).1.w
section
variable {rec : Nat → Cu → Cu × List Tm} (hfine : ∀ k c, Fine (rec k c) c) {n : Nat} (hrec : RdF 210 rec n)
include hfine hrec -- 210
theorem two_ev {c : Cu} (hk : c.Ok) (hn : c.r.length < n) (hN : n < 100000) (op : Int) : DoesU 295 (fun o => [rdr o, I op]) c.w (.c (L ((twoP rec op c).2.map Tm.c))) (twoP rec op c).1.w := by
  have w1 := c.want_le 3 [40]
  obtain ⟨a1, a2⟩ := hfine 1 (c.want 3 [40])
  have w2 := ((rec 1 (c.want 3 [40])).1.want_le 3 [44])
  obtain ⟨b1, b2⟩ := hfine 1 ((rec 1 (c.want 3 [40])).1.want 3 [44])
  have e1 := w1.2
  have e2 := a1.2
  have e3 := w2.2
  have o1 := w1.1 hk
  have o2 := a1.1 o1
  have o3 := w2.1 o2
  have o4 := b1.1 o3
  have hj := join_ev op [(rec 1 (c.want 3 [40])).2, (rec 1 ((rec 1 (c.want 3 [40])).1.want 3 [44])).2] (by simp) (by simp; omega)
  refine .intro Tryz.func295 (by kernel_rfl) (((want_c hk 3 [40]).and ((hrec _ o1 (by omega) 1 (by omega) (by omega)).and ((want_c o2 3 [44]).and ((hrec _ o3 (by omega) 1 (by omega) (by omega)).and ((want_c o4 3 [41]).and hj))))).imp fun k ⟨h1, h2, h3, h4, h5, h6⟩ gl o ro hg hro => ?_)
  have h1 := h1 gl o ro hg hro
  have h2 := h2 _ o ro (get_set hg _) hro
  have h3 := h3 _ o ro (get_set hg _) hro
  have h4 := h4 _ o ro (get_set hg _) hro
  have h5 := h5 _ o ro (get_set hg _) hro
  clear hfine hrec
  simp only [twoP] at *
  clear e1 e2 e3 a1 a2 b1 b2 w1 w2 hj
  generalize hd2 : c.want 3 [40] = d2 at *
  generalize hd3 : rec 1 d2 = q at *
  obtain ⟨d3, x⟩ := q
  simp only at h2 h3 h4 h5 h6 ⊢
  generalize hd4 : d3.want 3 [44] = d4 at *
  generalize hd5 : rec 1 d4 = q2 at *
  obtain ⟨d5, y⟩ := q2
  simp only at h4 h5 h6 ⊢
  generalize hd6 : d5.want 3 [41] = d6 at *
  simp only [List.set_set] at h2 h3 h4 h5
  have hov : (⟨op, 0, []⟩ :: [x, y].flatten : List Tm) = over op x y := by simp [over]
  rw [hov] at h6
  generalize over op x y = ov at h6 ⊢
  simp at h2 h4 h6
  simp -implicitDefEqProofs [Tryz.f295, h1, h2, h3, h4, h5, h6]
omit hfine hrec in -- 210
theorem isF {c : Cu} {k : Int} {t : List UInt8} (h : ¬ (c.next.kind = k ∧ c.next.text = t)) : ¬ c.is k t = true := by
  intro hh
  simp only [Cu.is, Bool.and_eq_true, decide_eq_true_eq] at hh
  exact h ⟨hh.2.1, hh.2.2⟩
omit hfine hrec in -- 210
theorem isT {c : Cu} {k : Int} {t : List UInt8} (he : c.e = 0) (h1 : c.next.kind = k) (h2 : c.next.text = t) : c.is k t = true := by
  simp [Cu.is, he, h1, h2]
theorem pAtom_ev {c : Cu} (hk : c.Ok) (he : c.e = 0) (hn : c.r.length < n + 1) (hN : n < 100000) : DoesU 287 (fun o => [rdr o]) c.w (.c (L ((atomP rec c).2.map Tm.c))) (atomP rec c).1.w := by
  unfold atomP
  have hj1 : ∀ op : Int, Gives 261 [I op, L []] (.c (L (([⟨op, 0, []⟩] : List Tm).map Tm.c))) := fun op => by
    have := join_ev op [] (by simp) (by simp)
    exact this
  by_cases k2 : c.next.kind = 2
  · rw [if_pos k2]
    refine .intro Tryz.func287 (by kernel_rfl) (((next_c hk).and (number_c hk 1000000)).imp fun k ⟨h1, h2⟩ gl o ro hg hro => ?_)
    have h1 := fun ro => h1 gl o ro hg
    have h2 := h2 gl o ro hg hro
    generalize c.number 1000000 = q at h2 ⊢
    obtain ⟨d, x⟩ := q
    simp [Tk.w, k2] at h1
    simp at h2
    simp -implicitDefEqProofs [Tryz.f287, Tm.c, h1, h2]
  · rw [if_neg k2]
    by_cases kp : c.is 3 [40] = true
    · rw [if_pos kp]
      obtain ⟨_, hr⟩ := Cu.is_real kp (by simp)
      have kp' := kp
      simp only [Cu.is, Bool.and_eq_true, decide_eq_true_eq] at kp'
      have k3 := kp'.2.1
      have f1 : ∀ t, ¬ c.is 1 t = true := fun t => isF (fun h => by rw [k3] at h; exact absurd h.1 (by decide))
      obtain ⟨a1, a2⟩ := hfine 1 c.on
      refine .intro Tryz.func287 (by kernel_rfl) (((next_c hk).and ((take_no' hk 1 bTrue (f1 _)).and ((take_no' hk 1 bFalse (f1 _)).and ((take_no' hk 1 bMin (f1 _)).and ((take_no' hk 1 bMax (f1 _)).and ((take_yes hk 3 [40] kp).and ((hrec c.on hk.on (by omega) 1 (by omega) (by omega)).and (want_c (a1.1 hk.on) 3 [41])))))))).imp fun k ⟨h1, h2, h3, h4, h5, h6, h7, h8⟩ gl o ro hg hro => ?_)
      have h1 := fun ro => h1 gl o ro hg
      have h2 := h2 gl o ro hg hro
      have h3 := h3 gl o ro hg hro
      have h4 := h4 gl o ro hg hro
      have h5 := h5 gl o ro hg hro
      have h6 := h6 gl o ro hg hro
      have h7 := h7 _ o ro (get_set hg _) hro
      have h8 := h8 _ o ro (get_set hg _) hro
      simp only [List.set_set] at h7 h8
      generalize rec 1 c.on = q at h7 h8 ⊢
      obtain ⟨d, x⟩ := q
      simp only at h7 h8 ⊢
      simp [Tk.w, k3] at h1
      simp at h7
      simp -implicitDefEqProofs [Tryz.f287, h1, h2, h3, h4, h5, h6, h7, h8]
    · rw [if_neg kp]
      by_cases k1 : c.next.kind = 1
      rotate_left
      · rw [if_pos k1]
        have f1 : ∀ t, ¬ c.is 1 t = true := fun t => isF (fun h => k1 h.1)
        refine .intro Tryz.func287 (by kernel_rfl) (((next_c hk).and ((take_no' hk 1 bTrue (f1 _)).and ((take_no' hk 1 bFalse (f1 _)).and ((take_no' hk 1 bMin (f1 _)).and ((take_no' hk 1 bMax (f1 _)).and ((take_no' hk 3 [40] kp).and ((take_no' hk 1 bIn (f1 _)).and (fail_c hk 2)))))))).imp fun k ⟨h1, h2, h3, h4, h5, h6, h7, h8⟩ gl o ro hg hro => ?_)
        have h1 := fun ro => h1 gl o ro hg
        have h2 := h2 gl o ro hg hro
        have h3 := h3 gl o ro hg hro
        have h4 := h4 gl o ro hg hro
        have h5 := h5 gl o ro hg hro
        have h6 := h6 gl o ro hg hro
        have h7 := h7 gl o ro hg hro
        have h8 := h8 gl o ro hg hro
        simp [Tk.w] at h1
        simp -implicitDefEqProofs [Tryz.f287, h1, h2, h3, h4, h5, h6, h7, h8, k1, k2]
      · rw [if_neg (by simp [k1])]
        obtain ⟨_, hr⟩ := Cu.next_real (c := c) (.inr (by rw [k1]; simp))
        by_cases t1 : c.next.text = bTrue
        · rw [if_pos t1]
          refine .intro Tryz.func287 (by kernel_rfl) (((next_c hk).and ((take_yes hk 1 bTrue (isT he k1 t1)).and (hj1 9))).imp fun k ⟨h1, h2, h3⟩ gl o ro hg hro => ?_)
          have h1 := fun ro => h1 gl o ro hg
          have h2 := h2 gl o ro hg hro
          simp [Tk.w, k1] at h1
          simp at h3
          simp -implicitDefEqProofs [Tryz.f287, h1, h2, h3]
        · rw [if_neg t1]
          have n1 := take_no' hk 1 bTrue (isF fun h => t1 h.2)
          by_cases t2 : c.next.text = bFalse
          · rw [if_pos t2]
            refine .intro Tryz.func287 (by kernel_rfl) (((next_c hk).and (n1.and ((take_yes hk 1 bFalse (isT he k1 t2)).and (hj1 10)))).imp fun k ⟨h1, h0, h2, h3⟩ gl o ro hg hro => ?_)
            have h1 := fun ro => h1 gl o ro hg
            have h0 := h0 gl o ro hg hro
            have h2 := h2 gl o ro hg hro
            simp [Tk.w, k1] at h1
            simp at h3
            simp -implicitDefEqProofs [Tryz.f287, h1, h0, h2, h3]
          · rw [if_neg t2]
            have n2 := take_no' hk 1 bFalse (isF fun h => t2 h.2)
            by_cases t3 : c.next.text = bIn
            · rw [if_pos t3]
              have n3 := take_no' hk 1 bMin (isF fun h => by rw [t3] at h; exact absurd h.2 (by decide))
              have n4 := take_no' hk 1 bMax (isF fun h => by rw [t3] at h; exact absurd h.2 (by decide))
              have w1 := c.on.want_le 3 [40]
              have w2 := (c.on.want 3 [40]).name_le
              refine .intro Tryz.func287 (by kernel_rfl) (((next_c hk).and (n1.and (n2.and (n3.and (n4.and ((take_no' hk 3 [40] kp).and ((take_yes hk 1 bIn (isT he k1 t3)).and ((want_c hk.on 3 [40]).and ((name_c (w1.1 hk.on)).and (want_c (w2.1 (w1.1 hk.on)) 3 [41])))))))))).imp fun k ⟨h1, h2, h3, h4, h5, h6, h7, h8, h9, h10⟩ gl o ro hg hro => ?_)
              have h1 := fun ro => h1 gl o ro hg
              have h2 := h2 gl o ro hg hro
              have h3 := h3 gl o ro hg hro
              have h4 := h4 gl o ro hg hro
              have h5 := h5 gl o ro hg hro
              have h6 := h6 gl o ro hg hro
              have h7 := h7 gl o ro hg hro
              have h8 := h8 _ o ro (get_set hg _) hro
              have h9 := h9 _ o ro (get_set hg _) hro
              have h10 := h10 _ o ro (get_set hg _) hro
              simp only [List.set_set] at h8 h9 h10
              generalize c.on.want 3 [40] = d at h8 h9 h10 ⊢
              generalize d.name = q at h9 h10 ⊢
              obtain ⟨d2, x⟩ := q
              simp only at h9 h10 ⊢
              simp [Tk.w, k1] at h1
              simp -implicitDefEqProofs [Tryz.f287, Tm.c, h1, h2, h3, h4, h5, h6, h7, h8, h9, h10]
            · rw [if_neg t3]
              have n5 := take_no' hk 1 bIn (isF fun h => t3 h.2)
              by_cases t4 : c.next.text = bMin
              · rw [if_pos t4]
                refine .intro Tryz.func287 (by kernel_rfl) (((next_c hk).and (n1.and (n2.and ((take_yes hk 1 bMin (isT he k1 t4)).and (two_ev hfine hrec hk.on (by omega) hN 7))))).imp fun k ⟨h1, h2, h3, h4, h5⟩ gl o ro hg hro => ?_)
                have h1 := fun ro => h1 gl o ro hg
                have h2 := h2 gl o ro hg hro
                have h3 := h3 gl o ro hg hro
                have h4 := h4 gl o ro hg hro
                have h5 := h5 _ o ro (get_set hg _) hro
                simp only [List.set_set] at h5
                generalize twoP rec 7 c.on = q at h5 ⊢
                obtain ⟨d2, x⟩ := q
                simp only at h5 ⊢
                simp [Tk.w, k1] at h1
                simp -implicitDefEqProofs [Tryz.f287, h1, h2, h3, h4, h5]
              · rw [if_neg t4]
                have n3 := take_no' hk 1 bMin (isF fun h => t4 h.2)
                by_cases t5 : c.next.text = bMax
                · rw [if_pos t5]
                  refine .intro Tryz.func287 (by kernel_rfl) (((next_c hk).and (n1.and (n2.and (n3.and ((take_yes hk 1 bMax (isT he k1 t5)).and (two_ev hfine hrec hk.on (by omega) hN 8)))))).imp fun k ⟨h1, h2, h3, h0, h4, h5⟩ gl o ro hg hro => ?_)
                  have h1 := fun ro => h1 gl o ro hg
                  have h2 := h2 gl o ro hg hro
                  have h3 := h3 gl o ro hg hro
                  have h0 := h0 gl o ro hg hro
                  have h4 := h4 gl o ro hg hro
                  have h5 := h5 _ o ro (get_set hg _) hro
                  simp only [List.set_set] at h5
                  generalize twoP rec 8 c.on = q at h5 ⊢
                  obtain ⟨d2, x⟩ := q
                  simp only at h5 ⊢
                  simp [Tk.w, k1] at h1
                  simp -implicitDefEqProofs [Tryz.f287, h1, h2, h3, h0, h4, h5]
                · rw [if_neg t5]
                  have n4 := take_no' hk 1 bMax (isF fun h => t5 h.2)
                  by_cases t6 : isName c.next.text = true
                  · rw [if_pos t6]
                    have hnm : c.name = (c.on, c.next.text) := by unfold Cu.name; rw [if_pos (by simp [Cu.named, he, k1, t6])]
                    have hnc := name_c hk
                    rw [hnm] at hnc
                    refine .intro Tryz.func287 (by kernel_rfl) (((next_c hk).and (n1.and (n2.and (n3.and (n4.and ((take_no' hk 3 [40] kp).and (n5.and ((nIs_ev _ hk.next).and hnc)))))))).imp fun k ⟨h1, h2, h3, h4, h5, h6, h7, h8, h9⟩ gl o ro hg hro => ?_)
                    have h1 := fun ro => h1 gl o ro hg
                    have h2 := h2 gl o ro hg hro
                    have h3 := h3 gl o ro hg hro
                    have h4 := h4 gl o ro hg hro
                    have h5 := h5 gl o ro hg hro
                    have h6 := h6 gl o ro hg hro
                    have h7 := h7 gl o ro hg hro
                    have h9 := h9 gl o ro hg hro
                    rw [t6] at h8
                    simp [Tk.w, k1] at h1
                    simp at h8 h9
                    simp -implicitDefEqProofs [Tryz.f287, Tm.c, h1, h2, h3, h4, h5, h6, h7, h8, h9]
                  · rw [if_neg t6]
                    refine .intro Tryz.func287 (by kernel_rfl) (((next_c hk).and (n1.and (n2.and (n3.and (n4.and ((take_no' hk 3 [40] kp).and (n5.and ((nIs_ev _ hk.next).and (fail_c hk 2))))))))).imp fun k ⟨h1, h2, h3, h4, h5, h6, h7, h8, h9⟩ gl o ro hg hro => ?_)
                    have h1 := fun ro => h1 gl o ro hg
                    have h2 := h2 gl o ro hg hro
                    have h3 := h3 gl o ro hg hro
                    have h4 := h4 gl o ro hg hro
                    have h5 := h5 gl o ro hg hro
                    have h6 := h6 gl o ro hg hro
                    have h7 := h7 gl o ro hg hro
                    have h9 := h9 gl o ro hg hro
                    rw [show isName c.next.text = false by simpa using t6] at h8
                    simp [Tk.w, k1] at h1
                    simp -implicitDefEqProofs [Tryz.f287, h1, h2, h3, h4, h5, h6, h7, h8, h9]
omit hfine hrec in -- 210
theorem pAtom_bad {c : Cu} (hk : c.Ok) (he : ¬ c.e = 0) : DoesU 287 (fun o => [rdr o]) c.w (.c (L [])) c.w := by
  have f : ∀ k t, ¬ c.is k t = true := fun k t h => by
    simp only [Cu.is, Bool.and_eq_true, decide_eq_true_eq] at h
    exact he h.1
  have hf : c.fail 2 = c := by unfold Cu.fail; rw [if_neg (fun h => he h.1)]
  have hfc := fail_c hk 2
  rw [hf] at hfc
  refine .intro Tryz.func287 (by kernel_rfl) (((next_c hk).and ((take_no' hk 1 bTrue (f _ _)).and ((take_no' hk 1 bFalse (f _ _)).and ((take_no' hk 1 bMin (f _ _)).and ((take_no' hk 1 bMax (f _ _)).and ((take_no' hk 3 [40] (f _ _)).and ((take_no' hk 1 bIn (f _ _)).and hfc))))))).imp fun k ⟨h1, h2, h3, h4, h5, h6, h7, h8⟩ gl o ro hg hro => ?_)
  have hnx : c.next = tk0 := by unfold Cu.next; rw [if_neg he]
  rw [hnx] at h1
  have h1 := fun ro => h1 gl o ro hg
  have h2 := h2 gl o ro hg hro
  have h3 := h3 gl o ro hg hro
  have h4 := h4 gl o ro hg hro
  have h5 := h5 gl o ro hg hro
  have h6 := h6 gl o ro hg hro
  have h7 := h7 gl o ro hg hro
  have h8 := h8 gl o ro hg hro
  simp [Tk.w, tk0] at h1
  simp -implicitDefEqProofs [Tryz.f287, h1, h2, h3, h4, h5, h6, h7, h8]
end
end Go.Proofs.YtckonoejmjblfaaGreatDoor.Ev

/- Layer 6: the program's expressions of a level at least. -/
set_option linter.unusedVariables false
set_option linter.unusedSimpArgs false
set_option maxRecDepth 100000
set_option maxHeartbeats 4000000
namespace Go.Proofs.YtckonoejmjblfaaGreatDoor.Ev
open Go Go.RowKit

/-- What begins an expression, and its level. -/
def fstP (rec : Nat → Cu → Cu × List Tm) (least : Nat) (c : Cu) : (Cu × List Tm) × Nat :=
  if c.e ≠ 0 then ((c, []), 8)
  else if least ≤ 3 ∧ c.is 1 bNot then (((rec 3 c.on).1, over 12 (rec 3 c.on).2 []), 3)
  else if c.is 3 [45] then (((rec 7 c.on).1, over 3 (rec 7 c.on).2 []), 7)
  else (atomP rec c, 8)
section
variable {rec : Nat → Cu → Cu × List Tm} (hfine : ∀ k c, Fine (rec k c) c) {n : Nat} (hrec : RdF 210 rec n)
include hfine hrec -- 210
theorem first_ev {c : Cu} (hk : c.Ok) (hn : c.r.length < n + 1) (hN : n < 100000) (least : Nat) : DoesU 259 (fun o => [rdr o, I least]) c.w (.tup [L ((fstP rec least c).1.2.map Tm.c), I (fstP rec least c).2]) (fstP rec least c).1.1.w := by
  unfold fstP
  have hlv := fun (x : Int) => (level_ev.imp fun k h => h x)
  have l12 := hlv 12
  have l3 := hlv 3
  have l0 := hlv 0
  rw [show levelI 12 = 3 from rfl] at l12
  rw [show levelI 3 = 7 from rfl] at l3
  rw [show levelI 0 = 8 from rfl] at l0
  have hl3 : ((least : Int) ≤ 3) = (least ≤ 3) := by simp only [eq_iff_iff]; omega
  by_cases he : c.e = 0
  rotate_left
  · rw [if_pos he]
    have f : ∀ k t, ¬ c.is k t = true := fun k t h => by
      simp only [Cu.is, Bool.and_eq_true, decide_eq_true_eq] at h
      exact he h.1
    refine .intro Tryz.func259 (by kernel_rfl) ((l12.and (l0.and ((take_no' hk 1 bNot (f _ _)).and ((take_no' hk 3 [45] (f _ _)).and (pAtom_bad hk he))))).imp fun k ⟨h1, h2, h3, h4, h5⟩ gl o ro hg hro => ?_)
    have h3 := h3 gl o ro hg hro
    have h4 := h4 gl o ro hg hro
    have h5 := h5 gl o ro hg hro
    by_cases hl : least ≤ 3
    · simp -implicitDefEqProofs [Tryz.f259, h1, h2, h3, h4, h5, hl3, hl]
    · simp -implicitDefEqProofs [Tryz.f259, h1, h2, h3, h4, h5, hl3, hl]
  · rw [if_neg (by simp [he])]
    by_cases hnot : c.is 1 bNot = true
    · obtain ⟨_, hr⟩ := Cu.is_real hnot (by simp)
      obtain ⟨a1, a2⟩ := hfine 3 c.on
      have hj := join_ev 12 [(rec 3 c.on).2] (by simp) (by simp; omega)
      have hov : (⟨12, 0, []⟩ :: [(rec 3 c.on).2].flatten : List Tm) = over 12 (rec 3 c.on).2 [] := by simp [over]
      rw [hov] at hj
      by_cases hl : least ≤ 3
      · rw [if_pos ⟨hl, hnot⟩]
        refine .intro Tryz.func259 (by kernel_rfl) ((l12.and ((take_yes hk 1 bNot hnot).and ((hrec c.on hk.on (by omega) 3 (by omega) (by omega)).and hj))).imp fun k ⟨h1, h3, h4, h5⟩ gl o ro hg hro => ?_)
        have h3 := h3 gl o ro hg hro
        have h4 := h4 _ o ro (get_set hg _) hro
        simp only [List.set_set] at h4
        generalize over 12 (rec 3 c.on).2 [] = ov at h5 ⊢
        generalize rec 3 c.on = q at h4 h5 ⊢
        obtain ⟨d, x⟩ := q
        simp only at h4 h5 ⊢
        simp at h4 h5
        simp -implicitDefEqProofs [Tryz.f259, h1, h3, h4, h5, hl3, hl]
      · rw [if_neg (fun h => hl h.1)]
        have hneg : ¬ c.is 3 [45] = true := isF (fun h => by
          simp only [Cu.is, Bool.and_eq_true, decide_eq_true_eq] at hnot
          rw [hnot.2.1] at h
          exact absurd h.1 (by decide))
        rw [if_neg hneg]
        refine .intro Tryz.func259 (by kernel_rfl) ((l12.and (l0.and ((take_no' hk 3 [45] hneg).and (pAtom_ev hfine hrec hk he hn hN)))).imp fun k ⟨h1, h2, h4, h5⟩ gl o ro hg hro => ?_)
        have h4 := h4 gl o ro hg hro
        have h5 := h5 gl o ro hg hro
        generalize atomP rec c = q at h5 ⊢
        obtain ⟨d, x⟩ := q
        simp only at h5 ⊢
        simp -implicitDefEqProofs [Tryz.f259, h1, h2, h4, h5, hl3, hl]
    · rw [if_neg (fun h => hnot h.2)]
      by_cases hneg : c.is 3 [45] = true
      · rw [if_pos hneg]
        obtain ⟨_, hr⟩ := Cu.is_real hneg (by simp)
        obtain ⟨a1, a2⟩ := hfine 7 c.on
        have hj := join_ev 3 [(rec 7 c.on).2] (by simp) (by simp; omega)
        have hov : (⟨3, 0, []⟩ :: [(rec 7 c.on).2].flatten : List Tm) = over 3 (rec 7 c.on).2 [] := by simp [over]
        rw [hov] at hj
        refine .intro Tryz.func259 (by kernel_rfl) ((l12.and (l3.and ((take_no' hk 1 bNot hnot).and ((take_yes hk 3 [45] hneg).and ((hrec c.on hk.on (by omega) 7 (by omega) (by omega)).and hj))))).imp fun k ⟨h1, h2, h3, h4, h5, h6⟩ gl o ro hg hro => ?_)
        have h3 := h3 gl o ro hg hro
        have h4 := h4 gl o ro hg hro
        have h5 := h5 _ o ro (get_set hg _) hro
        simp only [List.set_set] at h5
        generalize over 3 (rec 7 c.on).2 [] = ov at h6 ⊢
        generalize rec 7 c.on = q at h5 h6 ⊢
        obtain ⟨d, x⟩ := q
        simp only at h5 h6 ⊢
        simp at h5 h6
        by_cases hl : least ≤ 3
        · simp -implicitDefEqProofs [Tryz.f259, h1, h2, h3, h4, h5, h6, hl3, hl]
        · simp -implicitDefEqProofs [Tryz.f259, h1, h2, h3, h4, h5, h6, hl3, hl]
      · rw [if_neg hneg]
        refine .intro Tryz.func259 (by kernel_rfl) ((l12.and (l0.and ((take_no' hk 1 bNot hnot).and ((take_no' hk 3 [45] hneg).and (pAtom_ev hfine hrec hk he hn hN))))).imp fun k ⟨h1, h2, h3, h4, h5⟩ gl o ro hg hro => ?_)
        have h3 := h3 gl o ro hg hro
        have h4 := h4 gl o ro hg hro
        have h5 := h5 gl o ro hg hro
        generalize atomP rec c = q at h5 ⊢
        obtain ⟨d, x⟩ := q
        simp only at h5 ⊢
        by_cases hl : least ≤ 3
        · simp -implicitDefEqProofs [Tryz.f259, h1, h2, h3, h4, h5, hl3, hl]
        · simp -implicitDefEqProofs [Tryz.f259, h1, h2, h3, h4, h5, hl3, hl]
end
end Go.Proofs.YtckonoejmjblfaaGreatDoor.Ev

/- Layer 6: the program's expressions are the document's. -/
set_option linter.unusedVariables false
set_option linter.unusedSimpArgs false
set_option maxRecDepth 100000
set_option maxHeartbeats 4000000
namespace Go.Proofs.YtckonoejmjblfaaGreatDoor.Ev
open Go Go.RowKit

def topL (now : Nat) : Nat := if now = 4 then 3 else now
abbrev fK : List Nat := [1, 2, 5, 6]
def frS (least : Nat) (l : List Tm) (now : Nat) (o : Nat) (gl : List (List W)) (ro : Nat) : St :=
  st 56 [(1, V.int .i64 least), (2, .c (.w (.box 2 0))), (5, .c (L (l.map Tm.c))), (6, V.int .i64 now)] [(2, [.glo o 0])] [] gl ro
/-- When the loop is over. -/
theorem fr_out {c : Cu} (hk : c.Ok) (least now : Nat) (l : List Tm) (h : c.e = 0 → btw c.next ≠ 0 → levelI (btw c.next) < least ∨ (now : Int) < leftI (btw c.next)) : Evt fun K => ∀ gl o ro, (gl : List (List W))[o]? = some c.w → ro ≤ o → ∀ N n S, S.hav fK = frS least l now o gl ro →
    loopA (evC Tryz.prog cf 210 (ev K) N (bodyOf Tryz.f210 0)) fK [] (n + 1) S = some (.exit 0, frS least l now o gl ro) := by
  refine ((good_c (c := c)).and ((between_ev hk).and (level_ev.and left_ev))).imp fun K ⟨h1, h2, h3, h4⟩ gl o ro hg hro N n S hS => ?_
  have h1 := fun ro => h1 gl o ro hg
  have h2 := fun ro => h2 gl o ro hg
  have h3 := h3 (btw c.next)
  have h4 := h4 (btw c.next)
  refine loop_exit ?_
  rw [hS]
  by_cases he : c.e = 0
  · by_cases hb : btw c.next = 0
    · rw [hb] at h2
      simp [he] at h1
      simp -implicitDefEqProofs [frS, bodyOf, loopsOf, hv, Tryz.f210, h1, h2]
    · simp [he] at h1
      by_cases hl : levelI (btw c.next) < least
      · simp -implicitDefEqProofs [frS, bodyOf, loopsOf, hv, Tryz.f210, h1, h2, h3, hb, hl]
      · have hn : (now : Int) < leftI (btw c.next) := (h he hb).resolve_left hl
        simp -implicitDefEqProofs [frS, bodyOf, loopsOf, hv, Tryz.f210, h1, h2, h3, h4, hb, hl, hn]
  · simp [he] at h1
    simp -implicitDefEqProofs [frS, bodyOf, loopsOf, hv, Tryz.f210, h1]
section
variable {rec : Nat → Cu → Cu × List Tm} (hfine : ∀ k c, Fine (rec k c) c) {n : Nat}
variable (hrec : RdF 210 rec n)
include hfine
include hrec -- 210
/-- A round that goes on. -/
theorem fr_on {c : Cu} (hk : c.Ok) (hn : c.r.length < n + 1) (he : c.e = 0) (hb : btw c.next ≠ 0) (p : Nat) (hp : levelI (btw c.next) = p) (hp1 : 1 ≤ p) (hp6 : p ≤ 6) (least now : Nat) (hle : least ≤ p) (hnow : ¬ (now : Int) < leftI (btw c.next)) (l : List Tm) (hl : l.length + 2 * c.r.length < 300000) : Evt fun K => ∀ gl o ro, (gl : List (List W))[o]? = some c.w → ro ≤ o → ∀ N,
    (evC Tryz.prog cf 210 (ev K) N (bodyOf Tryz.f210 0) (frS least l now o gl ro)).map (hv fK) = some (.normal, frS least (over (btw c.next) l (rec (p + 1) c.on).2) p o (gl.set o (rec (p + 1) c.on).1.w) ro) := by
  obtain ⟨_, hr⟩ := Cu.next_real (c := c) (.inl (btw_real hb))
  obtain ⟨f1, f2⟩ := hfine (p + 1) c.on
  have hj := join_ev (btw c.next) [l, (rec (p + 1) c.on).2] (by simp) (by simp; omega)
  have hov : (⟨btw c.next, 0, []⟩ :: [l, (rec (p + 1) c.on).2].flatten : List Tm) = over (btw c.next) l (rec (p + 1) c.on).2 := by simp [over]
  rw [hov] at hj
  have hli : ¬ levelI (btw c.next) < least := by omega
  refine ((good_c (c := c)).and ((between_ev hk).and (level_ev.and (left_ev.and ((next_c hk).and ((take_yes hk c.next.kind c.next.text (isT he rfl rfl)).and ((hrec c.on hk.on (by omega) (p + 1) (by omega) (by omega)).and hj))))))).imp fun K ⟨h1, h2, h3, h4, h5, h6, h7, h8⟩ gl o ro hg hro N => ?_
  have h1 := fun ro => h1 gl o ro hg
  have h2 := fun ro => h2 gl o ro hg
  have h3 := h3 (btw c.next)
  have h4 := h4 (btw c.next)
  have h5 := fun ro => h5 gl o ro hg
  have h6 := h6 gl o ro hg hro
  have h7 := h7 _ o ro (get_set hg _) hro
  simp only [List.set_set] at h7
  rw [hp] at h3 hli
  have w : IntKind.i64.wrap ((p : Int) + 1) = (p : Int) + 1 := i64w _ (by omega)
  generalize over (btw c.next) l (rec (p + 1) c.on).2 = ov at h8 ⊢
  generalize rec (p + 1) c.on = q at h7 h8 ⊢
  obtain ⟨d, x⟩ := q
  simp only at h7 h8 ⊢
  generalize c.on.w = cw at h6 h7
  simp [Tk.w, he] at h1 h5 h7 h8
  simp -implicitDefEqProofs [frS, bodyOf, loopsOf, hv, Tryz.f210, h1, h2, h3, h4, h5, h6, h7, h8, hb, hli, hnow, w]
theorem fr_loop (least : Nat) (hls : 0 < least) : ∀ (m : Nat) (c : Cu) (now : Nat) (l : List Tm), c.Ok → c.r.length < m → c.r.length < n + 1 → 1 ≤ now → now ≤ 8 → l.length + 2 * c.r.length < 300000 → Evt fun K => ∀ gl o ro, (gl : List (List W))[o]? = some c.w → ro ≤ o → ∀ N S, m ≤ N → S.hav fK = frS least l now o gl ro → ∃ now' : Nat, True ∧
    loopA (evC Tryz.prog cf 210 (ev K) K (bodyOf Tryz.f210 0)) fK [] N S = some (.exit 0, frS least (hP rec (n + 1) least (topL now) c l).2 now' o (gl.set o (hP rec (n + 1) least (topL now) c l).1.w) ro)
  | 0, c, now, l, _, h, _, _, _, _ => by omega
  | m + 1, c, now, l, hk, hm, hn, n1, n8, hl => by
    by_cases hout : c.e = 0 → btw c.next ≠ 0 → levelI (btw c.next) < least ∨ (now : Int) < leftI (btw c.next)
    · refine (fr_out hk least now l hout).imp fun K q gl o ro hg hro N S hN hS => ⟨now, trivial, ?_⟩
      obtain ⟨N, rfl⟩ : ∃ x, N = x + 1 := ⟨N - 1, by omega⟩
      have : hP rec (n + 1) least (topL now) c l = (c, l) := by
        refine hP_stop _ _ _ fun h1 h2 => ?_
        rcases hout h1 h2 with h | h
        · exact .inl h
        · refine .inr ?_
          unfold leftI at h
          unfold topL
          split at h
          · rename_i h4
            rw [h4]
            split <;> omega
          · rcases btw_level h2 with h5 | h5 | h5 | h5 | h5 <;> rw [h5] at h ⊢ <;> split <;> omega
      rw [this, set_same hg]
      exact q gl o ro hg hro K N S hS
    · have he : c.e = 0 := Classical.byContradiction fun h => hout fun h' => absurd h' h
      have hb : btw c.next ≠ 0 := Classical.byContradiction fun h => hout fun _ h' => absurd h' h
      have h3 : ¬ levelI (btw c.next) < least := fun h => hout fun _ _ => .inl h
      have h4 : ¬ (now : Int) < leftI (btw c.next) := fun h => hout fun _ _ => .inr h
      obtain ⟨p, hp, hp1, hp6⟩ : ∃ p : Nat, levelI (btw c.next) = p ∧ 1 ≤ p ∧ p ≤ 6 := by
        rcases btw_level hb with h5 | h5 | h5 | h5 | h5
        · exact ⟨1, h5, by omega, by omega⟩
        · exact ⟨2, h5, by omega, by omega⟩
        · exact ⟨4, h5, by omega, by omega⟩
        · exact ⟨5, h5, by omega, by omega⟩
        · exact ⟨6, h5, by omega, by omega⟩
      have hle : least ≤ p := by rw [hp] at h3; omega
      have hpt : p ≤ topL now := by
        unfold leftI at h4
        rw [hp] at h4
        unfold topL
        split at h4
        · split <;> omega
        · rename_i h5
          have h6 : p = 1 ∨ p = 2 ∨ p = 5 ∨ p = 6 := by
            rcases btw_level hb with h7 | h7 | h7 | h7 | h7 <;> rw [hp] at h7 <;> omega
          split <;> omega
      obtain ⟨_, hr⟩ := Cu.next_real (c := c) (.inl (btw_real hb))
      obtain ⟨f1, f2⟩ := hfine (p + 1) c.on
      have fr := f1.2
      have hstep : hP rec (n + 1) least (topL now) c l = hP rec (n + 1) least (topL p) (rec (p + 1) c.on).1 (over (btw c.next) l (rec (p + 1) c.on).2) := hP_step hfine hls (topL now) c l p he hb hp hle hpt hn
      rw [hstep]
      have ih := fr_loop least hls m (rec (p + 1) c.on).1 p (over (btw c.next) l (rec (p + 1) c.on).2) (f1.1 hk.on) (by omega) (by omega) hp1 (by omega) (by rw [over_len]; omega)
      refine ((fr_on hfine hrec hk hn he hb p hp hp1 hp6 least now hle h4 l hl).and ih).imp fun K ⟨q1, q2⟩ gl o ro hg hro N S hN hS => ?_
      obtain ⟨N, rfl⟩ : ∃ x, N = x + 1 := ⟨N - 1, by omega⟩
      have r1 := q1 gl o ro hg hro K
      rw [← hS] at r1
      obtain ⟨S', hS', e⟩ := loop_on r1
      obtain ⟨now', _, h⟩ := q2 _ o ro (get_set hg _) hro N S' (by omega) hS'
      rw [List.set_set] at h
      exact ⟨now', trivial, by rw [e, h]⟩
omit hfine in
omit hrec in -- 210
theorem hP_skip (N least q : Nat) (hq : q + 1 = 3 ∨ q + 1 = 7 ∨ q + 1 = 8) (c : Cu) (l : List Tm) : hP rec N least (q + 1) c l = hP rec N least q c l := by
  rw [hP]
  split
  · rw [hP_low (by omega)]
  · have : lpP rec (q + 1) N c l = (c, l) := by
      cases N with
      | zero => rfl
      | succ N =>
        rw [lpP, if_neg]
        rintro ⟨_, h2, h3⟩
        rcases btw_level h2 with h5 | h5 | h5 | h5 | h5 <;> rw [h5] at h3 <;> omega
    rw [this]
omit hfine in
omit hrec in -- 210
theorem fst_lv {c : Cu} (he : c.e = 0) (least : Nat) (h1 : 1 ≤ least) (h7 : least ≤ 7) : hP rec (n + 1) least (topL (fstP rec least c).2) (fstP rec least c).1.1 (fstP rec least c).1.2 = lvP rec (n + 1) (8 - least) c := by
  rw [lvP_eq (n + 1) c he (8 - least) (by omega), show 8 - (8 - least) = least by omega]
  unfold fstP
  rw [if_neg (by simp [he])]
  by_cases hn : least ≤ 3 ∧ c.is 1 bNot = true
  · rw [if_pos hn, if_pos hn]
    exact hP_skip _ _ _ (.inl rfl) _ _
  · rw [if_neg hn, if_neg hn]
    by_cases hm : c.is 3 [45] = true
    · rw [if_pos hm, if_pos ⟨h7, hm⟩]
      exact hP_skip _ _ _ (.inr (.inl rfl)) _ _
    · rw [if_neg hm, if_neg (fun h => hm h.2)]
      exact hP_skip _ _ _ (.inr (.inr rfl)) _ _
omit hfine in
omit hrec in -- 210
theorem fst_now {c : Cu} (least : Nat) : 1 ≤ (fstP rec least c).2 ∧ (fstP rec least c).2 ≤ 8 := by
  unfold fstP
  split
  · simp
  · split
    · simp
    · split <;> simp
omit hrec in -- 210
theorem fst_fine {c : Cu} (least : Nat) : Fine (fstP rec least c).1 c := by
  unfold fstP
  split
  · exact ⟨.refl c, by simp⟩
  · rename_i he
    split
    · rename_i h
      obtain ⟨_, hr⟩ := Cu.is_real h.2 (by simp)
      obtain ⟨a1, a2⟩ := hfine 3 c.on
      exact ⟨a1.trans c.on_le, by simp only [over_len, List.length_nil]; omega⟩
    · split
      · rename_i h
        obtain ⟨_, hr⟩ := Cu.is_real h (by simp)
        obtain ⟨a1, a2⟩ := hfine 7 c.on
        exact ⟨a1.trans c.on_le, by simp only [over_len, List.length_nil]; omega⟩
      · exact atomP_fine hfine (by simpa using he)
theorem from_step {c : Cu} (hk : c.Ok) (hn : c.r.length < n + 1) (hN : n < 100000) (least : Nat) (h1 : 1 ≤ least) (h7 : least ≤ 7) : DoesU 210 (fun o => [rdr o, I least]) c.w (.c (L ((lvP rec (n + 1) (8 - least) c).2.map Tm.c))) (lvP rec (n + 1) (8 - least) c).1.w := by
  obtain ⟨g1, g2⟩ := fst_fine hfine (c := c) least
  have gr := g1.2
  obtain ⟨m1, m2⟩ := fst_now (rec := rec) (c := c) least
  have hlp := fr_loop hfine hrec least h1 (n + 1) (fstP rec least c).1.1 (fstP rec least c).2 (fstP rec least c).1.2 (g1.1 hk) (by omega) (by omega) m1 m2 (by omega)
  have hval : hP rec (n + 1) least (topL (fstP rec least c).2) (fstP rec least c).1.1 (fstP rec least c).1.2 = lvP rec (n + 1) (8 - least) c := by
    by_cases he : c.e = 0
    · exact fst_lv he least h1 h7
    · have e1 : fstP rec least c = ((c, []), 8) := by unfold fstP; rw [if_pos he]
      have e2 : lvP rec (n + 1) (8 - least) c = (c, []) := by
        generalize 8 - least = j
        cases j <;> (rw [lvP, if_pos he])
      rw [e1, e2]
      exact hP_stop _ _ _ fun h => absurd h he
  rw [hval] at hlp
  refine .intro Tryz.func210 (by kernel_rfl) (((first_ev hfine hrec hk hn hN least).and (hlp.and (Evt.ge (n + 1)))).imp fun K ⟨q1, q2, hK⟩ gl o ro hg hro => ?_)
  have q1 := q1 gl o ro hg hro
  have tail : ∀ S : St, S.hav fK = frS least (fstP rec least c).1.2 (fstP rec least c).2 o (gl.set o (fstP rec least c).1.1.w) ro → ∃ now' : Nat, True ∧ loopC Tryz.prog cf 210 (ev K) K (bodyOf Tryz.f210 0) S = _ := fun S hS => q2 _ o ro (get_set hg _) hro K S (by omega) hS
  simp only [List.set_set] at tail
  clear hlp hval q2 g1 g2 gr m1 m2 hfine hrec
  generalize fstP rec least c = q at q1 tail
  obtain ⟨⟨d, x⟩, now⟩ := q
  simp only at q1 tail
  generalize lvP rec (n + 1) (8 - least) c = r at tail ⊢
  obtain ⟨d', x'⟩ := r
  simp only at tail ⊢
  simp -implicitDefEqProofs [Tryz.f210, q1]
  refine bind_ex2 (tail _ ?_) fun b _ => ?_
  · simp [frS]
  · simp [frS]
end
/-- The program's answer of a level. -/
theorem from_ev : ∀ (n : Nat), n < 100000 → RdF 210 (lvN n) n
  | 0, _ => fun d _ h _ _ _ => by omega
  | n + 1, hN => fun d hd hn k k1 k7 => from_step (lvN_fine n) (from_ev n (by omega)) hd hn (by omega) k k1 k7
end Go.Proofs.YtckonoejmjblfaaGreatDoor.Ev
