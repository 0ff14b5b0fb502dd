/- Layer 5: depth, as the document has it. -/
import Derived.Test.YtckonoejmjblfaaGreatDoorPkTre
import Derived.Test.YtckonoejmjblfaaGreatDoorPkTrmB
set_option linter.unusedVariables false
set_option linter.unusedSimpArgs false
set_option maxRecDepth 100000
set_option maxHeartbeats 4000000
namespace Go.Proofs.YtckonoejmjblfaaGreatDoor.Ev
open Go Go.RowKit

def rdS (l : List Tm) (ks : List Nat) (d j : Nat) (gl : List (List W)) (ro : Nat) : St := st 30 [(0, .c (L (l.map Tm.c))), (5, V.int .i64 d), (6, .c (L (ks.map iD))), (7, V.int .i64 j)] [] [] gl ro
theorem rDepth_ev : ∀ (e : Tr) (hw : e.wf) (l : List Tm) (i : Nat) (h : e.At l i) (hl : l.length < 1000000), Gives 157 [L (l.map Tm.c), I i] (V.int .i64 e.dep)
  | e, hw, l, i, h, hl => by
    have hb := rBelow_ev l (by omega) i e.top h.top (by rw [h.stop hw]; omega)
    rw [h.bel hw] at hb
    have hle := h.le
    have hdl := e.dep_le
    have hlp : Evt fun k => ∀ gl ro S, S.hav [0, 5, 6, 7] = rdS l (e.kids i) 0 0 gl ro → loopA (evC Tryz.prog cf 157 (ev k) k (bodyOf Tryz.f157 0)) [0, 5, 6, 7] [] k S = some (.exit 0, rdS l (e.kids i) (e.dep - 1) (e.kids i).length gl ro) := by
      cases e with
      | leaf t =>
        refine (Evt.ge 4).imp fun k hk gl ro S hS => ?_
        obtain ⟨k, rfl⟩ : ∃ m, k = m + 4 := ⟨k - 4, by omega⟩
        rw [loop_unroll, hS]
        simp -implicitDefEqProofs [rdS, Tr.kids, Tr.dep, bodyOf, loopsOf, exitHav, Tryz.f157]
      | one t a =>
        simp only [Tr.wf] at hw
        refine ((rDepth_ev a hw.2 l (i + 1) h.one hl).and (Evt.ge 4)).imp fun k ⟨h1, hk⟩ gl ro S hS => ?_
        obtain ⟨k, rfl⟩ : ∃ m, k = m + 4 := ⟨k - 4, by omega⟩
        have g : 0 < a.dep := by cases a <;> simp [Tr.dep]
        rw [loop_unroll, hS]
        simp at h1
        simp -implicitDefEqProofs [rdS, Tr.kids, Tr.dep, bodyOf, loopsOf, exitHav, loop_unroll, Tryz.f157, h1, g]
      | two t a b =>
        simp only [Tr.wf] at hw
        refine ((rDepth_ev a hw.2.1 l (i + 1) h.two.1 hl).and ((rDepth_ev b hw.2.2 l (i + 1 + a.flat.length) h.two.2 hl).and (Evt.ge 4))).imp fun k ⟨h1, h2, hk⟩ gl ro S hS => ?_
        obtain ⟨k, rfl⟩ : ∃ m, k = m + 4 := ⟨k - 4, by omega⟩
        have g : 0 < a.dep := by cases a <;> simp [Tr.dep]
        rw [loop_unroll, hS]
        simp at h1 h2
        by_cases hab : a.dep < b.dep
        · have e1 : max a.dep b.dep = b.dep := by omega
          simp -implicitDefEqProofs [rdS, Tr.kids, Tr.dep, bodyOf, loopsOf, exitHav, loop_unroll, Tryz.f157, h1, h2, g, hab, e1]
        · have e1 : max a.dep b.dep = a.dep := by omega
          simp -implicitDefEqProofs [rdS, Tr.kids, Tr.dep, bodyOf, loopsOf, exitHav, loop_unroll, Tryz.f157, h1, h2, g, hab, e1]
    refine .intro Tryz.func157 (by kernel_rfl) ((hb.and hlp).imp fun k ⟨h1, h2⟩ ro gl => ?_)
    have g : 0 < e.dep := by cases e <;> simp [Tr.dep]
    have w : IntKind.i64.wrap (((e.dep - 1 : Nat) : Int) + 1) = e.dep := by rw [i64w _ (by omega)]; omega
    have tail : ∀ S : St, S.hav [0, 5, 6, 7] = rdS l (e.kids i) 0 0 gl gl.length → loopC Tryz.prog cf 157 (ev k) k (bodyOf Tryz.f157 0) S = _ := fun S hS => h2 gl gl.length S hS
    simp -implicitDefEqProofs [Tryz.f157, h1]
    refine bind_go (tail _ ?_) ?_
    · simp [rdS]
    · simp [rdS, w]
end Go.Proofs.YtckonoejmjblfaaGreatDoor.Ev

/- Layer 5: what the first term comes to, from the last term on. -/
set_option linter.unusedVariables false
set_option linter.unusedSimpArgs false
set_option maxRecDepth 100000
set_option maxHeartbeats 4000000
namespace Go.Proofs.YtckonoejmjblfaaGreatDoor.Ev
open Go Go.RowKit

/-- What has come so far, down to place m. -/
def fCells (mk : Int → List Int → Int) (l : List Tm) (m : Nat) : List Int := List.replicate m 0 ++ foVs mk (l.drop m)
theorem fCells_len (mk : Int → List Int → Int) (l : List Tm) (m : Nat) (h : m ≤ l.length) : (fCells mk l m).length = l.length := by
  simp [fCells, foVs_len]; omega
theorem fCells_get (mk : Int → List Int → Int) (l : List Tm) (m c : Nat) (h : m ≤ c) (hc : c < l.length) : (fCells mk l m)[c]? = some (foV mk (l.drop c)) := by
  unfold fCells
  rw [List.getElem?_append_right (by simp; omega), List.length_replicate, foVs_get mk _ _ (by simp; omega), List.drop_drop]
  congr 3
  omega
theorem fCells_set (mk : Int → List Int → Int) (l : List Tm) (q : Nat) (h : q < l.length) : (fCells mk l (q + 1)).take q ++ foV mk (l.drop q) :: (fCells mk l (q + 1)).drop (q + 1) = fCells mk l q := by
  unfold fCells
  rw [List.take_append_of_le_length (by simp), List.take_replicate, List.drop_left' (by simp), Nat.min_eq_left (by omega), List.drop_eq_getElem_cons h]
  rfl
theorem foV_stk (mk : Int → List Int → Int) {l : List Tm} {e : Tr} {s : List Tr} (h : stk l = some (e :: s)) : foV mk l = e.fo mk := by
  unfold foV
  rw [h]
/-- What those below came to, as it is handed on. -/
def Bel (gl : List (List W)) (ro : Nat) (below : List Int) (x : W) : Prop := (below = [] ∧ x = .full []) ∨ (below ≠ [] ∧ ∃ o, x = .gsl o 0 below.length below.length 1 ∧ gl[o]? = some (cI below) ∧ ro ≤ o)
/-- What is shared stays, but for a slice's object. -/
def Stays (x : W) (gl gl' : List (List W)) : Prop := gl.length ≤ gl'.length ∧ ∀ j, j < gl.length → (∀ n, x ≠ .gsl j 0 n n 1) → gl'[j]? = gl[j]?
/-- A function of a deed and of what those below came to. -/
def FnM (f : Nat) (mk : Int → List Int → Int) : Prop := Evt fun k => ∀ (op : Int) (below : List Int) ro gl x, below.length ≤ 2 → Bel gl ro below x → ∃ gl', ev k f [I op, .w x] ro gl = some (V.int .i64 (mk op below), gl') ∧ Stays x gl gl'
def foS (f : Nat) (l : List Tm) (m : Nat) (o : Nat) (G : List (List W)) : St :=
  st 54 [(0, .c (L (l.map Tm.c))), (1, .c (.w (.fn f []))), (5, .c (.w (.gsl o 0 l.length l.length 1))), (6, V.int .i64 ((m : Int) - 1))] [] [] G o
def fiS (f : Nat) (l : List Tm) (q : Nat) (ks : List Nat) (o : Nat) (G : List (List W)) : St :=
  st 54 [(0, .c (L (l.map Tm.c))), (1, .c (.w (.fn f []))), (5, .c (.w (.gsl o 0 l.length l.length 1))), (6, V.int .i64 q), (7, .c (.w (.full []))), (26, .c (L (ks.map iD))), (27, V.int .i64 ks.length), (28, V.int .i64 0), (38, V.un)] [] [] G o
/-- What those below come to, as fold has it. -/
def belW (G : List (List W)) (vs : List Int) : W := match vs with
  | [] => .full []
  | [_] => .gsl G.length 0 1 1 1
  | _ => .gsl (G.length + 1) 0 2 2 1
def belG (G : List (List W)) (vs : List Int) : List (List W) := match vs with
  | [] => G
  | [v] => G ++ [cI [v]]
  | vs => G ++ [[], cI vs]
def fiE (f : Nat) (l : List Tm) (q : Nat) (ks : List Nat) (vs : List Int) (o : Nat) (G : List (List W)) : St :=
  st 54 [(0, .c (L (l.map Tm.c))), (1, .c (.w (.fn f []))), (5, .c (.w (.gsl o 0 l.length l.length 1))), (6, V.int .i64 q), (7, .c (.w (belW G vs))), (26, .c (L (ks.map iD))), (27, V.int .i64 ks.length), (28, V.int .i64 ks.length), (38, if vs = [] then V.un else .c (.w (belW G vs)))] [] [] (belG G vs) o
theorem fi_loop (call : Caller) (N : Nat) (f : Nat) (l : List Tm) (hl : l.length < 1000000) (q : Nat) (hq : q < l.length) (ks : List Nat) (vs : List Int) (cells : List Int) (hcl : cells.length = l.length) (hk : ks.length ≤ 2) (hv : ks.length = vs.length)
    (hg : ∀ (i c : Nat) v, ks[i]? = some c → vs[i]? = some v → q < c ∧ c < l.length ∧ cells[c]? = some v) (o : Nat) (G : List (List W)) (hG : G[o]? = some (cI cells)) (k : Nat) (S : St) (hS : S.hav [0, 1, 5, 6, 7, 26, 27, 28, 38] = fiS f l q ks o G) :
    loopA (evC Tryz.prog cf 230 call N (bodyOf Tryz.f230 1)) [0, 1, 5, 6, 7, 26, 27, 28, 38] [] (k + 4) S = some (.exit 2, fiE f l q ks vs o G) := by
  have hlt : o < G.length := (List.getElem?_eq_some_iff.1 hG).1
  have hle : o ≤ G.length := by omega
  match ks, vs, hk, hv with
  | [], [], _, _ =>
    rw [loop_unroll, hS]
    simp -implicitDefEqProofs [fiS, fiE, belW, belG, bodyOf, loopsOf, exitHav, Tryz.f230]
  | [c], [v], _, _ =>
    obtain ⟨g1, g2, g3⟩ := hg 0 c v rfl rfl
    have g3' := take1 g3
    have g2' : (c : Int) < l.length := by omega
    have g4 : c + 1 ≤ l.length := by omega
    rw [loop_unroll, hS]
    simp -implicitDefEqProofs [fiS, fiE, belW, belG, bodyOf, loopsOf, exitHav, loop_unroll, Tryz.f230, g2, g2', g3', g4, hcl, hG, hle]
  | [c, d], [v, u], _, _ =>
    obtain ⟨g1, g2, g3⟩ := hg 0 c v rfl rfl
    have g3' := take1 g3
    have g2' : (c : Int) < l.length := by omega
    have g4 : c + 1 ≤ l.length := by omega
    obtain ⟨e1, e2, e3⟩ := hg 1 d u rfl rfl
    have e3' := take1 e3
    have e2' : (d : Int) < l.length := by omega
    have e4 : d + 1 ≤ l.length := by omega
    have hG' : ∀ x, (G ++ x)[o]? = some (cI cells) := fun x => by rw [List.getElem?_append_left hlt, hG]
    rw [loop_unroll, hS]
    simp -implicitDefEqProofs [fiS, fiE, belW, belG, bodyOf, loopsOf, exitHav, loop_unroll, Tryz.f230, g2, g2', g3', g4, e2, e2', e3', e4, hcl, hG, hG', hle]
    rfl
end Go.Proofs.YtckonoejmjblfaaGreatDoor.Ev

/- Layer 5: fold, Depth. -/
set_option linter.unusedVariables false
set_option linter.unusedSimpArgs false
set_option maxRecDepth 100000
set_option maxHeartbeats 4000000
namespace Go.Proofs.YtckonoejmjblfaaGreatDoor.Ev
open Go Go.RowKit

theorem bind_ex {α β ι : Type} {x : Option α} {f : α → Option β} {z : Option β} {p : ι → Prop} {v : ι → α} (h : ∃ i, p i ∧ x = some (v i)) (k : ∀ i, p i → f (v i) = z) : x.bind f = z := by
  obtain ⟨i, h1, h2⟩ := h
  rw [h2]
  exact k i h1
/-- What those below came to. -/
def Tr.low (mk : Int → List Int → Int) : Tr → List Int
  | .leaf _ => []
  | .one _ a => [a.fo mk]
  | .two _ a b => [a.fo mk, b.fo mk]
theorem Tr.fo_low (mk : Int → List Int → Int) (e : Tr) : e.fo mk = mk e.top.op (e.low mk) := by cases e <;> rfl
theorem fo_round (f : Nat) (mk : Int → List Int → Int) (hf : FnM f mk) (hro : cfRo f = false) (hfl : cfFul f = true) (e : Tr) (hw : e.wf) (l : List Tm) (he : l = e.flat) (hl : l.length < 1000000) (q : Nat) (hq : q < l.length) : Evt fun k => ∀ o G, G[o]? = some (cI (fCells mk l (q + 1))) → ∃ G', G'[o]? = some (cI (fCells mk l q)) ∧
    (evC Tryz.prog cf 230 (ev k) k (bodyOf Tryz.f230 0) (foS f l (q + 1) o G)).map (hv [0, 1, 5, 6]) = some (.normal, foS f l q o G') := by
  obtain ⟨a, s, hs, haw, hd⟩ := sub_at hw (by rw [← he]; exact hq)
  rw [← he] at hs hd
  have hat : a.At l q := ⟨l.take q, flats s, hd, by simp; omega⟩
  have hb := Below_ev l (by omega) q a.top hat.top (by rw [hat.stop haw]; omega)
  rw [hat.bel haw] at hb
  have hle := hat.le
  have hval : foV mk (l.drop q) = a.fo mk := foV_stk mk hs
  have hlow : ∀ (i c : Nat) v, (a.kids q)[i]? = some c → (a.low mk)[i]? = some v → q < c ∧ c < l.length ∧ (fCells mk l (q + 1))[c]? = some v := by
    have hdr : l.drop q = l[q] :: l.drop (q + 1) := List.drop_eq_getElem_cons hq
    rw [hdr] at hs
    have hlt := hat.lt
    rcases stk_cons hs with ⟨ha, s', hs', h1⟩ | ⟨ha, x, s', hs', h1⟩ | ⟨ha, x, y, s', hs', h1⟩
    · cases h1
      intro i c v hc; simp [Tr.kids] at hc
    · cases h1
      intro i c v hc hv
      match i with
      | 0 =>
        simp only [Tr.kids, Tr.low, List.getElem?_cons_zero, Option.some.injEq] at hc hv
        subst hc; subst hv
        have := hat.one.lt
        exact ⟨by omega, this, by rw [fCells_get mk l _ _ (Nat.le_refl _) this, foV_stk mk hs']⟩
      | i + 1 => simp [Tr.kids] at hc
    · cases h1
      intro i c v hc hv
      have h1 := hat.two.1.lt
      have h2 := hat.two.2.lt
      match i with
      | 0 =>
        simp only [Tr.kids, Tr.low, List.getElem?_cons_zero, Option.some.injEq] at hc hv
        subst hc; subst hv
        exact ⟨by omega, h1, by rw [fCells_get mk l _ _ (Nat.le_refl _) h1, foV_stk mk hs']⟩
      | 1 =>
        simp only [Tr.kids, Tr.low, List.getElem?_cons_zero, List.getElem?_cons_succ, Option.some.injEq] at hc hv
        subst hc; subst hv
        have := stk_skip x hs'
        rw [List.drop_drop] at this
        exact ⟨by omega, h2, by rw [fCells_get mk l _ _ (by omega) h2, foV_stk mk this]⟩
      | i + 2 => simp [Tr.kids] at hc
  have hkl : (a.kids q).length = (a.low mk).length := by cases a <;> rfl
  have hk2 : (a.kids q).length ≤ 2 := by cases a <;> simp [Tr.kids]
  refine (hb.and (hf.and (Evt.ge 4))).imp fun k ⟨h1, h2, hk⟩ o G hG => ?_
  have hlt : o < G.length := (List.getElem?_eq_some_iff.1 hG).1
  have ht : l[q] = a.top := (List.getElem?_eq_some_iff.1 hat.top).2
  have hcl := fCells_len mk l (q + 1) (by omega)
  have hset := fCells_set mk l q hq
  have hq' : (q : Int) < l.length := by omega
  have hq4 : q + 1 ≤ l.length := by omega
  have w : IntKind.i64.wrap ((q : Int) - 1) = (q : Int) - 1 := i64w _ (by omega)
  have tail : ∀ S : St, S.hav [0, 1, 5, 6, 7, 26, 27, 28, 38] = fiS f l q (a.kids q) o G → loopC Tryz.prog cf 230 (ev k) k (bodyOf Tryz.f230 1) S = _ := fun S hS => by
    obtain ⟨k', rfl⟩ : ∃ m, k = m + 4 := ⟨k - 4, by omega⟩
    exact fi_loop (ev (k' + 4)) (k' + 4) f l hl q hq (a.kids q) (a.low mk) _ hcl hk2 hkl hlow o G hG k' S hS
  have key : ∀ x : W, Bel (belG G (a.low mk)) o (a.low mk) x → (∀ n, x ≠ .gsl o 0 n n 1) → ∃ gl', ev k f [I a.top.op, .w x] o (belG G (a.low mk)) = some (V.int .i64 (foV mk (l.drop q)), gl') ∧ gl'[o]? = some (cI (fCells mk l (q + 1))) := by
    intro x hx hne
    obtain ⟨gl', e1, e2, e3⟩ := h2 a.top.op (a.low mk) o (belG G (a.low mk)) x (by omega) hx
    rw [← a.fo_low mk, ← hval] at e1
    have hgl : G.length ≤ (belG G (a.low mk)).length := by unfold belG; split <;> simp
    refine ⟨gl', e1, ?_⟩
    rw [e3 o (by omega) hne]
    unfold belG
    split
    · exact hG
    · rw [List.getElem?_append_left hlt, hG]
    · rw [List.getElem?_append_left hlt, hG]
  have fin : ∀ gl' : List (List W), gl'[o]? = some (cI (fCells mk l (q + 1))) → (gl'.set o (cI (fCells mk l q)))[o]? = some (cI (fCells mk l q)) := fun gl' h => get_set h _
  rcases a with t | ⟨t, x⟩ | ⟨t, x, y⟩
  · obtain ⟨gl', e1, e2⟩ := key (.full []) (.inl ⟨rfl, rfl⟩) (fun n => by simp)
    refine ⟨_, fin gl' e2, ?_⟩
    simp -implicitDefEqProofs [foS, bodyOf, loopsOf, hv, Tryz.f230, h1]
    refine bind_go (tail _ ?_) ?_
    · simp [fiS]
    · simp only [Tr.low, belG] at e1
      simp -implicitDefEqProofs [hv, fiE, belW, belG, Tr.low, hq, hq', ht, Tm.c, hro, hfl, e1, e2, hcl, hset, w, hq4]
  · obtain ⟨gl', e1, e2⟩ := key (.gsl G.length 0 1 1 1) (.inr ⟨by simp [Tr.low], G.length, rfl, by simp [Tr.low, belG], by omega⟩) (fun n => by simp; omega)
    refine ⟨_, fin gl' e2, ?_⟩
    simp -implicitDefEqProofs [foS, bodyOf, loopsOf, hv, Tryz.f230, h1]
    refine bind_go (tail _ ?_) ?_
    · simp [fiS]
    · simp only [Tr.low, belG, cI_one] at e1
      simp -implicitDefEqProofs [hv, fiE, belW, belG, Tr.low, hq, hq', ht, Tm.c, hro, hfl, e1, e2, hcl, hset, w, hq4]
  · obtain ⟨gl', e1, e2⟩ := key (.gsl (G.length + 1) 0 2 2 1) (.inr ⟨by simp [Tr.low], G.length + 1, rfl, by simp [Tr.low, belG], by omega⟩) (fun n => by simp; omega)
    refine ⟨_, fin gl' e2, ?_⟩
    simp -implicitDefEqProofs [foS, bodyOf, loopsOf, hv, Tryz.f230, h1]
    refine bind_go (tail _ ?_) ?_
    · simp [fiS]
    · simp only [Tr.low, belG] at e1
      simp -implicitDefEqProofs [hv, fiE, belW, belG, Tr.low, hq, hq', ht, Tm.c, hro, hfl, e1, e2, hcl, hset, w, hq4]
theorem fo_loop (f : Nat) (mk : Int → List Int → Int) (hf : FnM f mk) (hro : cfRo f = false) (hfl : cfFul f = true) (e : Tr) (hw : e.wf) (l : List Tm) (he : l = e.flat) (hl : l.length < 1000000) : ∀ m, m ≤ l.length → Evt fun k => ∀ o G n S, G[o]? = some (cI (fCells mk l m)) → m < n → S.hav [0, 1, 5, 6] = foS f l m o G → ∃ G', G'[o]? = some (cI (fCells mk l 0)) ∧
    loopA (evC Tryz.prog cf 230 (ev k) k (bodyOf Tryz.f230 0)) [0, 1, 5, 6] [] n S = some (.exit 0, foS f l 0 o G')
  | 0, _ => by
    refine (Evt.ge 1).imp fun k _ o G n S hG hn hS => ⟨G, hG, ?_⟩
    obtain ⟨n, rfl⟩ : ∃ m, n = m + 1 := ⟨n - 1, by omega⟩
    refine loop_exit ?_
    rw [hS]
    simp -implicitDefEqProofs [foS, bodyOf, loopsOf, hv, Tryz.f230]
  | m + 1, hm => by
    refine ((fo_round f mk hf hro hfl e hw l he hl m (by omega)).and (fo_loop f mk hf hro hfl e hw l he hl m (by omega))).imp fun k ⟨q1, q2⟩ o G n S hG hn hS => ?_
    obtain ⟨n, rfl⟩ : ∃ m, n = m + 1 := ⟨n - 1, by omega⟩
    obtain ⟨G1, hG1, r1⟩ := q1 o G hG
    rw [← hS] at r1
    obtain ⟨S', hS', e⟩ := loop_on r1
    obtain ⟨G2, hG2, r2⟩ := q2 o G1 n S' hG1 (by omega) hS'
    exact ⟨G2, hG2, by rw [e, r2]⟩
theorem fold_ev (f : Nat) (mk : Int → List Int → Int) (hf : FnM f mk) (hro : cfRo f = false) (hfl : cfFul f = true) (l : List Tm) (hl : l.length < 1000000) : Gives 230 [L (l.map Tm.c), .w (.fn f [])] (V.int .i64 (foldD mk l)) := by
  unfold foldD
  by_cases hw : wholeB l = true
  · have hw' := hw
    unfold wholeB at hw'
    simp only [Bool.and_eq_true, decide_eq_true_eq] at hw'
    obtain ⟨e, he, hle⟩ := (whole_tree l).1 hw'.2
    have hpos : 0 < l.length := by rw [hle]; exact e.flat_pos
    refine .intro Tryz.func230 (by kernel_rfl) (((whole_ev l (by omega)).and ((Repeat_ev 0 l.length hpos hl).and ((fo_loop f mk hf hro hfl e he l hle hl l.length (Nat.le_refl _)).and (Evt.ge (l.length + 1))))).imp fun k ⟨h1, h2, h3, hk⟩ ro gl => ?_)
    have h2 := h2 gl.length gl (Nat.le_refl _)
    have w : IntKind.i64.wrap ((l.length : Int) - 1) = (l.length : Int) - 1 := i64w _ (by omega)
    have hc0 : (gl ++ [cI (List.replicate l.length 0)])[gl.length]? = some (cI (fCells mk l l.length)) := by simp [fCells, foVs]
    rw [hw] at h1
    simp -implicitDefEqProofs [Tryz.f230, h1, h2, w]
    have tail : ∀ S : St, S.hav [0, 1, 5, 6] = foS f l l.length gl.length (gl ++ [cI (List.replicate l.length 0)]) → ∃ G', G'[gl.length]? = some (cI (fCells mk l 0)) ∧ loopC Tryz.prog cf 230 (ev k) k (bodyOf Tryz.f230 0) S = some (.exit 0, foS f l 0 gl.length G') := fun S hS => h3 gl.length _ k S hc0 (by omega) hS
    refine bind_ex (tail _ ?_) fun G' hG' => ?_
    · simp [foS]
    have hc := fCells_len mk l 0 (Nat.zero_le _)
    have g := take1 (fCells_get mk l 0 0 (Nat.le_refl _) hpos)
    simp only [List.drop_zero] at g
    have g1 : 1 ≤ l.length := hpos
    simp -implicitDefEqProofs [foS, g, hc, hpos, g1, hw, hG']
  · refine .intro Tryz.func230 (by kernel_rfl) ((whole_ev l (by omega)).imp fun k h1 ro gl => ?_)
    simp only [Bool.not_eq_true] at hw
    rw [hw] at h1
    simp -implicitDefEqProofs [Tryz.f230, h1, hw]
/-- How deep. -/
def depM (_ : Int) (below : List Int) : Int := IntKind.i64.wrap (1 + maxL (below ++ [0]).tail ((below ++ [0]).headD 0))
def mgS (o n : Nat) (m : Int) (i : Nat) (gl : List (List W)) (ro : Nat) : St := st 25 [(0, .c (.w (.gsl o 0 n n 1))), (3, V.int .i64 m), (4, V.int .i64 i)] [] [] gl ro
theorem MaxG_ev : Evt fun k => ∀ (l : List Int), l.length = 2 ∨ l.length = 3 → ∀ (gl : List (List W)) (o : Nat) ro, gl[o]? = some (cI l) → ev k 253 [.w (.gsl o 0 l.length l.length 1)] ro gl = some (V.int .i64 (maxL l.tail (l.headD 0)), gl) := by
  refine Evt.up (fun _ q => ∀ (l : List Int), l.length = 2 ∨ l.length = 3 → ∀ (gl : List (List W)) (o : Nat) ro, gl[o]? = some (cI l) → q [.w (.gsl o 0 l.length l.length 1)] ro gl = some (V.int .i64 (maxL l.tail (l.headD 0)), gl)) Tryz.func253 (by kernel_rfl) ((Evt.ge 5).imp fun k hk l hl gl o ro ho => ?_) fun _ _ h => h
  obtain ⟨k, rfl⟩ : ∃ m, k = m + 5 := ⟨k - 5, by omega⟩
  match l, hl with
  | [a, b], _ =>
    have tail : ∀ S : St, S.hav [0, 3, 4] = mgS o 2 a 1 gl gl.length → loopC Tryz.prog cf 253 (ev (k + 5)) (k + 5) (bodyOf Tryz.f253 0) S = some (.exit 0, mgS o 2 (if b > a then b else a) 2 gl gl.length) := fun S hS => by
      show loopA _ [0, 3, 4] [] (k + 5) S = _
      rw [loop_unroll, hS]
      simp -implicitDefEqProofs [mgS, bodyOf, loopsOf, exitHav, loop_unroll, Tryz.f253, ho, cI]
    simp -implicitDefEqProofs [Tryz.f253, ho, cI]
    refine bind_go (tail _ ?_) ?_
    · simp [mgS]
    · simp [mgS, maxL]
  | [a, b, c], _ =>
    have tail : ∀ S : St, S.hav [0, 3, 4] = mgS o 3 a 1 gl gl.length → loopC Tryz.prog cf 253 (ev (k + 5)) (k + 5) (bodyOf Tryz.f253 0) S = some (.exit 0, mgS o 3 (if c > (if b > a then b else a) then c else (if b > a then b else a)) 3 gl gl.length) := fun S hS => by
      show loopA _ [0, 3, 4] [] (k + 5) S = _
      rw [loop_unroll, hS]
      simp -implicitDefEqProofs [mgS, bodyOf, loopsOf, exitHav, loop_unroll, Tryz.f253, ho, cI]
    simp -implicitDefEqProofs [Tryz.f253, ho, cI]
    refine bind_go (tail _ ?_) ?_
    · simp [mgS]
    · simp [mgS, maxL]
theorem Depth1_ev : FnM 252 depM := by
  refine Evt.up (fun _ g => ∀ (op : Int) (below : List Int) ro (gl : List (List W)) x, below.length ≤ 2 → Bel gl ro below x → ∃ gl', g [I op, .w x] ro gl = some (V.int .i64 (depM op below), gl') ∧ Stays x gl gl') Tryz.func252 (by kernel_rfl) ((Max_ev.and MaxG_ev).imp fun k ⟨h, hG⟩ op below ro gl x hb hx => ?_) fun _ _ h => h
  rcases hx with ⟨rfl, rfl⟩ | ⟨hne, o, rfl, ho, hro⟩
  · have h := fun ro gl => h [0] ro gl (by simp) (by simp)
    simp only [List.map_cons, List.map_nil] at h
    refine ⟨gl, ?_, Nat.le_refl _, fun _ _ _ => rfl⟩
    simp -implicitDefEqProofs [Tryz.f252, h, depM]
  · have hlt : o < gl.length := (List.getElem?_eq_some_iff.1 ho).1
    have hst : ∀ (n : Nat) (y : List W), Stays (.gsl o 0 n n 1) gl (gl.set o [] ++ [y]) := fun n y => by
      refine ⟨by simp, fun j hj hx => ?_⟩
      rw [List.getElem?_append_left (by simpa using hj), List.getElem?_set_ne]
      rintro rfl
      exact hx n rfl
    match below, hb, hne with
    | [a], _, _ =>
      have h := fun ro => hG [a, 0] (by simp) (gl.set o [] ++ [cI [a, 0]]) gl.length ro (by simp)
      simp [cI] at h
      refine ⟨gl.set o [] ++ [cI [a, 0]], ?_, hst _ _⟩
      simp -implicitDefEqProofs [Tryz.f252, h, depM, ho, hro, cI]
    | [a, b], _, _ =>
      have h := fun ro => hG [a, b, 0] (by simp) (gl.set o [] ++ [cI [a, b, 0]]) gl.length ro (by simp)
      simp [cI] at h
      refine ⟨gl.set o [] ++ [cI [a, b, 0]], ?_, hst _ _⟩
      simp -implicitDefEqProofs [Tryz.f252, h, depM, ho, hro, cI]
end Go.Proofs.YtckonoejmjblfaaGreatDoor.Ev
