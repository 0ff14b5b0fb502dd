/- Layer 8: Run, the program's. -/
import Derived.Test.YtckonoejmjblfaaGreatDoorPkAim
import Derived.Test.YtckonoejmjblfaaGreatDoorPkRunA
import Derived.Test.YtckonoejmjblfaaGreatDoorPkSort
set_option linter.unusedVariables false
set_option linter.unusedSimpArgs false
set_option maxRecDepth 100000
set_option maxHeartbeats 4000000
namespace Go.Proofs.YtckonoejmjblfaaGreatDoor.Ev
open Go Go.RowKit

/-- Values in an object of their own, from lo on. -/
def Own (lo : Nat) (gl : List (List W)) (l : List Q4) (x : W) : Prop := ∃ o m rest, x = .gsl o 0 l.length m 4 ∧ gl[o]? = some (cellsQ l ++ rest) ∧ lo ≤ o ∧ l.length ≤ m ∧ rest.length + l.length * 4 = m * 4 ∧ 0 < l.length
/-- Values that are being gathered. -/
def Nxt (lo : Nat) (gl : List (List W)) (l : List Q4) (x : W) : Prop := (l = [] ∧ x = .full []) ∨ Own lo gl l x
/-- Values that are gone through. -/
def Now (lo : Nat) (gl : List (List W)) (l : List Q4) (x : W) : Prop := (∃ q, l = [q] ∧ x = .full [q.r]) ∨ Own lo gl l x
/-- What x holds stays. -/
def Holds (x : W) (gl gl' : List (List W)) : Prop := gl.length ≤ gl'.length ∧ ∀ j, j < gl.length → (∀ n m, x ≠ .gsl j 0 n m 4) → gl'[j]? = gl[j]?
theorem rows_cells : ∀ G : List Q4, (G.map Q4.r).flatten.map W.d = cellsQ G
  | [] => rfl
  | q :: G => by
    have ih := rows_cells G
    simp only [List.map_cons, List.flatten_cons, List.map_append, ih]
    rfl
theorem lodges_cells : ∀ G : List Q4, lodges (cellsQ G) = some (cellsQ G)
  | [] => rfl
  | q :: G => by
    have ih := lodges_cells G
    have e : cellsQ (q :: G) = W.d (.int .i64 q.a) :: W.d (.int .i64 q.b) :: W.d (.int .i64 q.c) :: W.d (.int .i64 q.d) :: cellsQ G := rfl
    rw [e]
    simp only [lodges, W.lodge, W.expo, ih, Option.bind_some, Option.map_some]
theorem app_rows {lo : Nat} {gl : List (List W)} {acc : List Q4} {x : W} (G : List Q4) (hG : 0 < G.length) (hl : acc.length + G.length ≤ 100000) (h : Nxt lo gl acc x) {ro : Nat} (hro : ro ≤ lo) (hlo : lo ≤ gl.length) :
    ∃ gl' x', Own lo gl' (acc ++ G) x' ∧ Holds x gl gl' ∧ (∀ n m j, x' = .gsl j 0 n m 4 → j < gl.length → ∃ n m, x = .gsl j 0 n m 4) ∧ ∀ s : St, s.gl = gl → s.ro = ro → appendM Tryz.prog cf 73 s 55 111 (.c (.w x)) (.c (.w (.d (.sl (G.map Q4.r))))) = some { (s.put (some 55) (.c (.w x'))) with gl := gl' } := by
  have hR := rows_cells G
  have hE := lodges_cells G
  have hall : ∀ y ∈ G.map Q4.r, y.length = 4 := fun y hy => by obtain ⟨q, _, rfl⟩ := List.mem_map.1 hy; rfl
  have hRl : (G.map Q4.r).length = G.length := List.length_map _
  have hcl := cellsQ_len G
  have hap : cellsQ (acc ++ G) = cellsQ acc ++ cellsQ G := cellsQ_app _ _
  have hlen : (acc ++ G).length = acc.length + G.length := List.length_append
  have hca := cellsQ_len acc
  have n1 : ¬ G.length = 0 := by omega
  have allb : ((G.map Q4.r).all fun u => u.length == 4) = true := by
    rw [List.all_eq_true]
    intro y hy
    simp [hall y hy]
  have hR2 : (List.map (List.map W.d) (G.map Q4.r)).flatten = cellsQ G := by rw [← List.map_flatten, hR]
  have hall := eq_true hall
  generalize G.map Q4.r = R at hR hR2 hall hRl allb
  generalize hZ : cellsQ G = Z at hR hR2 hE hcl hap
  have hsz : szOf Tryz.prog 108 = some 4 := by simp
  have hby : byOf Tryz.prog 108 = some 32 := by simp
  rcases h with ⟨rfl, rfl⟩ | ⟨o, m, rest, rfl, ho, h1, h2, h3, h4⟩
  · refine ⟨gl ++ [Z], .gsl gl.length 0 ([] ++ G).length ([] ++ G).length 4, ⟨gl.length, ([] ++ G).length, [], rfl, ?_, hlo, Nat.le_refl _, by simp, by simpa using hG⟩, ⟨by simp, fun j hj _ => List.getElem?_append_left hj⟩, fun n m j e hj => by cases e; omega, fun s hs hr => ?_⟩
    · rw [hap]; simp [cellsQ]
    · have b1 : G.length * 32 ≤ 140737488355328 := by simp at hl; omega
      have b2 : G.length ≤ 9223372036854775807 := by simp at hl; omega
      simp only [appendM, W.count, W.elems, Option.map_some, Option.getD_some, hRl, n1, if_false, cf_mut, cfMut]
      simp -implicitDefEqProofs [hs, hRl, hR, hR2, hall, hE, hG, b1, b2, allb]
  · have hol : o < gl.length := (List.getElem?_eq_some_iff.1 ho).1
    have hro' : ro ≤ o := by omega
    have b1 : (acc.length + G.length) * 32 ≤ 140737488355328 := by omega
    have b2 : acc.length + G.length ≤ 9223372036854775807 := by omega
    by_cases hroom : acc.length + G.length ≤ m
    · refine ⟨gl.set o (cellsQ acc ++ (Z ++ rest.drop (G.length * 4))), .gsl o 0 (acc ++ G).length m 4, ⟨o, m, rest.drop (G.length * 4), rfl, ?_, h1, by omega, by rw [List.length_drop, hlen]; omega, by rw [hlen]; omega⟩, ⟨by simp, fun j hj hx => ?_⟩, fun n m' j e hj => ?_, fun s hs hr => ?_⟩
      · rw [List.getElem?_set, if_pos rfl, if_pos hol, hap, List.append_assoc]
      · rw [List.getElem?_set_ne]
        rintro rfl
        exact hx _ _ rfl
      · cases e; exact ⟨_, _, rfl⟩
      · have hp : paste (cellsQ acc ++ rest) (acc.length * 4) Z = some (cellsQ acc ++ (Z ++ rest.drop (G.length * 4))) := by
          unfold paste
          rw [if_pos (by rw [List.length_append, hca, hcl]; omega), ← hca, List.take_left, List.append_assoc, hcl, List.drop_append, List.drop_of_length_le (by omega), hca]
          simp
        rw [hlen]
        simp only [appendM, W.count, W.elems, Option.map_some, Option.getD_some, hRl, n1, if_false, appendG]
        simp -implicitDefEqProofs [-paste, hs, hr, hRl, hR, hR2, hall, hE, hG, b1, b2, allb, ho, hro', hroom, hp]
    · refine ⟨gl.set o [] ++ [cellsQ acc ++ Z], .gsl gl.length 0 (acc ++ G).length (acc ++ G).length 4, ⟨gl.length, (acc ++ G).length, [], rfl, ?_, hlo, Nat.le_refl _, by simp, by rw [hlen]; omega⟩, ⟨by simp, fun j hj hx => ?_⟩, fun n m' j e hj => ?_, fun s hs hr => ?_⟩
      · rw [List.getElem?_append_right (by simp), hap]; simp
      · rw [List.getElem?_append_left (by simpa using hj), List.getElem?_set_ne]
        rintro rfl
        exact hx _ _ rfl
      · cases e; omega
      · have ht : List.take (acc.length * 4) (cellsQ acc ++ rest) = cellsQ acc := by rw [← hca]; exact List.take_left
        have k1 : 0 < (cellsQ acc ++ rest).length := by rw [List.length_append, hca]; omega
        have k2 : acc.length * 4 ≤ (cellsQ acc ++ rest).length := by rw [List.length_append, hca]; omega
        rw [hlen]
        generalize cellsQ acc ++ rest = Y at ho ht k1 k2
        simp only [appendM, W.count, W.elems, Option.map_some, Option.getD_some, hRl, n1, if_false, appendG]
        simp -implicitDefEqProofs [hs, hr, hRl, hR, hR2, hall, hE, hG, b1, b2, allb, ho, hro', hroom, ht, k1, k2]
/-- The inner loop: all values that come of so many. -/
def inS (a : Ac) (p : Nat) (en : En) (q : Q4) (acts : List Ac) (i : Nat) (nx nw : W) (n kk : Nat) (u : V) (gl : List (List W)) (ro : Nat) : St :=
  st 66 [(3, .c (.w (.box 3 0))), (9, .c (.w (.box 9 0))), (10, V.int .i64 p), (12, .c (.w nx)), (27, .c (L (acts.map Ac.c))), (28, V.int .i64 acts.length), (29, V.int .i64 i), (42, .c (.w nw)), (43, V.int .i64 n), (44, V.int .i64 kk), (55, u)] [(3, (en.at q).ws), (9, a.cells)] [] gl ro
def UOk (u : V) : Prop := u = V.un ∨ ∃ o n m, u = .c (.w (.gsl o 0 n m 4))
def Elt (gl : List (List W)) (nw : W) (kk n : Nat) (q : Q4) : Prop := (nw = .full [q.r] ∧ kk = 0 ∧ n = 1) ∨ (∃ o m cs, nw = .gsl o 0 n m 4 ∧ gl[o]? = some cs ∧ List.take 4 (List.drop (kk * 4) cs) = q.ws ∧ kk * 4 + 4 ≤ cs.length ∧ kk < n)
theorem nxt_hav {lo : Nat} {gl : List (List W)} {l : List Q4} {x : W} (h : Nxt lo gl l x) (keep : List Nat) : W.hav keep x = x := by
  rcases h with ⟨_, rfl⟩ | ⟨o, m, rest, rfl, _⟩ <;> rfl
theorem own_hav {lo : Nat} {gl : List (List W)} {l : List Q4} {x : W} (h : Own lo gl l x) (keep : List Nat) : W.hav keep x = x := nxt_hav (.inr h) keep
theorem in_round (a : Ac) (en : En) (j : Nat) (hj4 : j < 4) (v : Vr) (hvr : en.vars[j]? = some v) (hok : a.Ok) (hl : a.expr.length < 1000000) (hlv : en.vars.length < 1000000) (hi : en.ins.length < 1000000) (hr : v.Ok)
    (h : (a.any = true ∧ v.lo ≤ v.hi ∧ v.hi - v.lo ≤ 63) ∨ (a.any = false ∧ evalE a.expr en.vars = 0)) (q : Q4) (hG : 0 < (giveV a j (en.at q)).length) : Evt fun k => ∀ N acts i nx nw n kk u q0 gl ro lo acc, Nxt lo gl acc nx → ro ≤ lo → lo ≤ gl.length → acc.length + (giveV a j (en.at q)).length ≤ 100000 → n ≤ 100000 → (∀ keep, W.hav keep nw = nw) → Elt gl nw kk n q →
      ∃ gl' nx', Own lo gl' (acc ++ giveV a j (en.at q)) nx' ∧ Holds nx gl gl' ∧ (∀ n m j, nx' = .gsl j 0 n m 4 → j < gl.length → ∃ n m, nx = .gsl j 0 n m 4) ∧
        ((evC Tryz.prog cf 73 (ev k) N (bodyOf Tryz.f73 1)) (inS a j en q0 acts i nx nw n kk u gl ro)).map (hv [3, 9, 10, 12, 27, 28, 29, 42, 43, 44, 55]) = some (.normal, inS a j en q acts i nx' nw n (kk + 1) (.c (.w nx')) gl' ro) := by
  refine (give_ev a (en.at q) j hj4 v hvr hok hl hlv hi hr h).imp fun k h1 N acts i nx nw n kk u q0 gl ro lo acc hnx hro hlo hlen hn hnw he => ?_
  obtain ⟨gl', nx', g1, g2, g3, happ⟩ := app_rows (giveV a j (en.at q)) hG hlen hnx hro hlo
  refine ⟨gl', nx', g1, g2, g3, ?_⟩
  have w : IntKind.i64.wrap ((kk : Int) + 1) = (kk : Int) + 1 := i64w _ (by rcases he with ⟨_, h, _⟩ | ⟨_, _, _, _, _, _, _, h⟩ <;> omega)
  obtain ⟨o', m', rest', e', _⟩ := g1
  rw [e'] at happ ⊢
  clear g2 g3 h
  generalize (acc ++ giveV a j (en.at q)).length = len' at happ ⊢
  generalize giveV a j (en.at q) = G at h1 happ
  generalize G.map Q4.r = R at h1 happ
  obtain ⟨nm, an, ex⟩ := a
  simp [Ac.w, En.w, En.ws, En.at] at h1
  rcases he with ⟨rfl, rfl, rfl⟩ | ⟨o, m, cs, rfl, ho, hc, hcl, hkn⟩
  · rcases hnx with ⟨_, rfl⟩ | ⟨o2, m2, rest2, rfl, _⟩
    · simp -implicitDefEqProofs [-appendM, inS, En.ws, En.at, bodyOf, loopsOf, hv, Tryz.f73, h1, happ, Q4.r]
    · simp -implicitDefEqProofs [-appendM, inS, En.ws, En.at, bodyOf, loopsOf, hv, Tryz.f73, h1, happ, Q4.r]
  · have hkn' : (kk : Int) < n := by omega
    simp only [Q4.ws] at hc
    rcases hnx with ⟨_, rfl⟩ | ⟨o2, m2, rest2, rfl, _⟩
    · simp -implicitDefEqProofs [-appendM, inS, En.ws, En.at, bodyOf, loopsOf, hv, Tryz.f73, h1, happ, w, hkn, hkn', ho, hc, hcl]
    · simp -implicitDefEqProofs [-appendM, inS, En.ws, En.at, bodyOf, loopsOf, hv, Tryz.f73, h1, happ, w, hkn, hkn', ho, hc, hcl]
/-- Whatever is gone through isn't what is gathered. -/
def Dif (nx nw : W) : Prop := ∀ o n m n' m', nx = .gsl o 0 n m 4 → nw = .gsl o 0 n' m' 4 → False
theorem now_elt {lo : Nat} {gl : List (List W)} {l : List Q4} {x : W} (h : Now lo gl l x) {kk : Nat} {q : Q4} (hq : l[kk]? = some q) : Elt gl x kk l.length q := by
  have hlt := (List.getElem?_eq_some_iff.1 hq).1
  rcases h with ⟨q', rfl, rfl⟩ | ⟨o, m, rest, rfl, ho, h1, h2, h3, h4⟩
  · simp only [List.length_singleton] at hlt
    obtain rfl : kk = 0 := by omega
    simp at hq
    subst hq
    exact .inl ⟨rfl, rfl, rfl⟩
  · exact .inr ⟨o, m, cellsQ l ++ rest, rfl, ho, cellsQ_get rest l kk q hq, by rw [List.length_append, cellsQ_len]; omega, hlt⟩
theorem now_hav {lo : Nat} {gl : List (List W)} {l : List Q4} {x : W} (h : Now lo gl l x) (keep : List Nat) : W.hav keep x = x := by
  rcases h with ⟨q', _, rfl⟩ | ⟨o, m, rest, rfl, _⟩ <;> rfl
theorem now_keep {lo : Nat} {gl gl' : List (List W)} {l : List Q4} {x nx : W} (h : Now lo gl l x) (hd : Dif nx x) (hh : Holds nx gl gl') : Now lo gl' l x := by
  rcases h with ⟨q', h1, h2⟩ | ⟨o, m, rest, rfl, ho, h⟩
  · exact .inl ⟨q', h1, h2⟩
  · refine .inr ⟨o, m, rest, rfl, ?_, h⟩
    rw [hh.2 o (List.getElem?_eq_some_iff.1 ho).1 fun n m' e => hd o n m' _ _ e rfl, ho]
theorem dif_keep {lo : Nat} {gl : List (List W)} {l : List Q4} {x nx nx' : W} (h : Now lo gl l x) (hd : Dif nx x) (hc : ∀ n m j, nx' = .gsl j 0 n m 4 → j < gl.length → ∃ n m, nx = .gsl j 0 n m 4) : Dif nx' x := by
  intro o n m n' m' e1 e2
  rcases h with ⟨q', _, rfl⟩ | ⟨o', m'', rest, rfl, ho, _⟩
  · cases e2
  · cases e2
    obtain ⟨n2, m2, e3⟩ := hc n m o e1 (List.getElem?_eq_some_iff.1 ho).1
    exact hd o n2 m2 _ _ e3 rfl
theorem in_exit (call : Caller) (N : Nat) (a : Ac) (j : Nat) (en : En) (q : Q4) (acts : List Ac) (i : Nat) (nx nw : W) (n : Nat) (u : V) (gl : List (List W)) (ro : Nat) (hu : UOk u) (hnx : nx = .full [] ∨ ∃ o n m, nx = .gsl o 0 n m 4) (hnw : (∃ r, nw = .full [r]) ∨ ∃ o n m, nw = .gsl o 0 n m 4) :
    ((evC Tryz.prog cf 73 call N (bodyOf Tryz.f73 1)) (inS a j en q acts i nx nw n n u gl ro)).map (hv [3, 9, 10, 12, 27, 28, 29, 42, 43, 44, 55]) = some (.exit 2, inS a j en q acts i nx nw n n u gl ro) := by
  obtain ⟨nm, an, ex⟩ := a
  rcases hu with rfl | ⟨o3, n3, m3, rfl⟩ <;> rcases hnx with rfl | ⟨o, n1, m, rfl⟩ <;> rcases hnw with ⟨r, rfl⟩ | ⟨o', n2, m', rfl⟩
  all_goals simp -implicitDefEqProofs [inS, En.ws, En.at, bodyOf, loopsOf, hv, Tryz.f73]
theorem in_loop (a : Ac) (en : En) (j : Nat) (hj4 : j < 4) (v : Vr) (hvr : en.vars[j]? = some v) (hok : a.Ok) (hl : a.expr.length < 1000000) (hlv : en.vars.length < 1000000) (hi : en.ins.length < 1000000) (hr : v.Ok)
    (h : (a.any = true ∧ v.lo ≤ v.hi ∧ v.hi - v.lo ≤ 63) ∨ (a.any = false ∧ evalE a.expr en.vars = 0)) (hG : ∀ q, 0 < (giveV a j (en.at q)).length ∧ (giveV a j (en.at q)).length ≤ 64) (now : List Q4) (hnow : now.length ≤ 64) :
    Evt fun k => ∀ (m kk : Nat) N acts i nx nw u q0 gl ro lo S n acc, kk + m = now.length → acc.length ≤ 64 * kk → Nxt lo gl acc nx → Now lo gl now nw → Dif nx nw → ro ≤ lo → lo ≤ gl.length → UOk u → m < n → S.hav [3, 9, 10, 12, 27, 28, 29, 42, 43, 44, 55] = inS a j en q0 acts i nx nw now.length kk u gl ro →
      ∃ gl' nx' u', Nxt lo gl' (acc ++ (now.drop kk).flatMap fun q => giveV a j (en.at q)) nx' ∧ lo ≤ gl'.length ∧ UOk u' ∧
        loopA (evC Tryz.prog cf 73 (ev k) N (bodyOf Tryz.f73 1)) [3, 9, 10, 12, 27, 28, 29, 42, 43, 44, 55] [4, 5] n S = some (.exit 2, inS a j en ((now.drop kk).getLastD q0) acts i nx' nw now.length now.length u' gl' ro) := by
  have hR : Evt fun k => ∀ q ∈ now, ∀ N acts i nx nw n kk u q0 gl ro lo acc, Nxt lo gl acc nx → ro ≤ lo → lo ≤ gl.length → acc.length + (giveV a j (en.at q)).length ≤ 100000 → n ≤ 100000 → (∀ keep, W.hav keep nw = nw) → Elt gl nw kk n q →
      ∃ gl' nx', Own lo gl' (acc ++ giveV a j (en.at q)) nx' ∧ Holds nx gl gl' ∧ (∀ n m j, nx' = .gsl j 0 n m 4 → j < gl.length → ∃ n m, nx = .gsl j 0 n m 4) ∧
        ((evC Tryz.prog cf 73 (ev k) N (bodyOf Tryz.f73 1)) (inS a j en q0 acts i nx nw n kk u gl ro)).map (hv [3, 9, 10, 12, 27, 28, 29, 42, 43, 44, 55]) = some (.normal, inS a j en q acts i nx' nw n (kk + 1) (.c (.w nx')) gl' ro) :=
    Evt.all now fun q _ => in_round a en j hj4 v hvr hok hl hlv hi hr h q (hG q).1
  refine hR.imp fun k hR m => ?_
  induction m with
  | zero =>
    intro kk N acts i nx nw u q0 gl ro lo S n acc hkk ha hnx hnw hd hro hlo hu hn hS
    obtain ⟨n, rfl⟩ : ∃ m, n = m + 1 := ⟨n - 1, by omega⟩
    have hk : kk = now.length := by omega
    subst hk
    refine ⟨gl, nx, u, ?_, hlo, hu, loop_exit ?_⟩
    · rw [List.drop_of_length_le (Nat.le_refl _)]; simpa using hnx
    · rw [hS, List.drop_of_length_le (Nat.le_refl _)]
      exact in_exit (ev k) N a j en q0 acts i nx nw _ u gl ro hu (by rcases hnx with ⟨_, h⟩ | ⟨o, m, r, h, _⟩; exact .inl h; exact .inr ⟨_, _, _, h⟩) (by rcases hnw with ⟨q, _, h⟩ | ⟨o, m, r, h, _⟩; exact .inl ⟨_, h⟩; exact .inr ⟨_, _, _, h⟩)
  | succ m ih =>
    intro kk N acts i nx nw u q0 gl ro lo S n acc hkk ha hnx hnw hd hro hlo hu hn hS
    obtain ⟨n, rfl⟩ : ∃ m, n = m + 1 := ⟨n - 1, by omega⟩
    have ca : now[kk]? = some now[kk] := List.getElem?_eq_getElem (by omega)
    have hmem := List.getElem_mem (l := now) (n := kk) (by omega)
    have hdr : now.drop kk = now[kk] :: now.drop (kk + 1) := List.drop_eq_getElem_cons (by omega)
    generalize now[kk] = q at ca hmem hdr
    obtain ⟨g', x', r1, r2, r3, r4⟩ := hR q hmem N acts i nx nw now.length kk u q0 gl ro lo acc hnx hro hlo (by have := (hG q).2; omega) (by omega) (fun keep => now_hav hnw keep) (now_elt hnw ca)
    obtain ⟨S', hS', e⟩ := loop_on (by rw [hS]; exact r4)
    have hx' : UOk (.c (.w x')) := by obtain ⟨o, m, r, h, _⟩ := r1; exact .inr ⟨o, _, m, by rw [h]⟩
    have hlen := (hG q)
    obtain ⟨g2, x2, u2, k1, k2, k3, k4⟩ := ih (kk + 1) N acts i x' nw (.c (.w x')) q g' ro lo S' n (acc ++ giveV a j (en.at q)) (by omega) (by rw [List.length_append]; omega) (.inr r1) (now_keep hnw hd r2) (dif_keep hnw hd r3) hro (Nat.le_trans hlo r2.1) hx' (by omega) hS'
    refine ⟨g2, x2, u2, ?_, k2, k3, by rw [e, k4, hdr, List.getLastD_cons]⟩
    rw [hdr, List.flatMap_cons, ← List.append_assoc]
    exact k1
/-- The outer loop: one act after the other. -/
def ouS (en : En) (q : Q4) (acts : List Ac) (i : Nat) (nw : W) (u : V) (gl : List (List W)) (ro : Nat) : St :=
  st 66 [(3, .c (.w (.box 3 0))), (7, .c (.w nw)), (27, .c (L (acts.map Ac.c))), (28, V.int .i64 acts.length), (29, V.int .i64 i), (55, u)] [(3, (en.at q).ws)] [] gl ro
def ouF (e : Int) (gl : List (List W)) (ro : Nat) : St := st 66 [(4, .c (.w (.full []))), (5, V.int .i64 e)] [] [] gl ro
theorem ou_err (en : En) (hr : ∀ v ∈ en.vars, v.Ok) (h4 : en.vars.length ≤ 4) (a : Ac) (hok : a.Ok) (hl : a.expr.length < 1000000) (q0 : Q4) (he : (aimV a en.vars).2 ≠ 0) :
    Evt fun k => ∀ N acts i nw u gl ro, acts[i]? = some a → acts.length ≤ 100 → ((evC Tryz.prog cf 73 (ev k) N (bodyOf Tryz.f73 0)) (ouS en q0 acts i nw u gl ro)).map (hv [4, 5]) = some (.ret, ouF (aimV a en.vars).2 gl ro) := by
  have hA := aim_ev a (en.at q0) hok hl (by show en.vars.length < 1000000; omega) hr
  refine hA.imp fun k h1 N acts i nw u gl ro ha hal => ?_
  have hlt : i < acts.length := (List.getElem?_eq_some_iff.1 ha).1
  have hlt' : (i : Int) < acts.length := by omega
  have hx : acts[i] = a := (List.getElem?_eq_some_iff.1 ha).2
  change ∀ ro gl, ev k 126 [a.w, (en.at q0).w] ro gl = some (.tup [I (aimV a en.vars).1, I (aimV a en.vars).2], gl) at h1
  generalize aimV a en.vars = e at he h1 ⊢
  obtain ⟨e1, e2⟩ := e
  simp only at he h1 ⊢
  clear hA
  obtain ⟨nm, an, ex⟩ := a
  simp [Ac.w, En.w, En.ws, En.at] at h1
  simp -implicitDefEqProofs [ouS, ouF, En.ws, En.at, bodyOf, loopsOf, hv, Tryz.f73, hlt, hlt', hx, Ac.c, h1, he]
theorem own_len {lo : Nat} {gl : List (List W)} {l : List Q4} {x : W} (h : Nxt lo gl l x) (hl : 0 < l.length) : Own lo gl l x := by
  rcases h with ⟨rfl, _⟩ | h
  · simp at hl
  · exact h
theorem ou_ok (en : En) (hr : ∀ v ∈ en.vars, v.Ok) (h4 : en.vars.length ≤ 4) (hi : en.ins.length < 1000000) (a : Ac) (hok : a.Ok) (hl : a.expr.length < 1000000) (now : List Q4) (hnow : now.length ≤ 64) (hpos : 0 < now.length) (q0 : Q4) (he : (aimV a en.vars).2 = 0) :
    Evt fun k => ∀ acts i nw u gl ro lo, acts[i]? = some a → acts.length ≤ 100 → Now lo gl now nw → ro ≤ lo → lo ≤ gl.length → UOk u →
      ∃ gl' nw' u', Own lo gl' (stepV a en now) nw' ∧ lo ≤ gl'.length ∧ UOk u' ∧ (if 64 < (stepV a en now).length then ((evC Tryz.prog cf 73 (ev k) k (bodyOf Tryz.f73 0)) (ouS en q0 acts i nw u gl ro)).map (hv [4, 5]) = some (.ret, ouF 12 gl' ro)
        else ((evC Tryz.prog cf 73 (ev k) k (bodyOf Tryz.f73 0)) (ouS en q0 acts i nw u gl ro)).map (hv [3, 7, 27, 28, 29, 55]) = some (.normal, ouS en (now.getLastD q0) acts (i + 1) nw' u' gl' ro)) := by
  have hA := aim_ev a (en.at q0) hok hl (by show en.vars.length < 1000000; omega) hr
  change Evt fun k => ∀ ro gl, ev k 126 [a.w, (en.at q0).w] ro gl = some (.tup [I (aimV a en.vars).1, I (aimV a en.vars).2], gl) at hA
  obtain ⟨v, p0, hv', p1, hc⟩ := aimV_ok he
  have hgl := gives_len he now
  have hlens := fun q => giveV_len he q
  have hstep : stepV a en now = compQ (sortQ (now.flatMap fun q => giveV a (aimV a en.vars).1 (en.at q))) := by rw [comp_sort]; rfl
  rw [he, p1] at hA
  rw [p1] at hgl hlens hstep
  have hp4 := (placeV_lt4 p0).1
  obtain ⟨j, hj⟩ : ∃ j : Nat, placeV en.vars a.name = j := ⟨(placeV en.vars a.name).toNat, by omega⟩
  rw [hj] at hgl hlens hstep hA hv' hp4
  rw [Int.toNat_natCast] at hv' hp4
  have lp := in_loop a en j (by omega) v hv' hok hl (by omega) hi (hr v (List.mem_of_getElem? hv')) (by rcases hc with ⟨c1, c2, c3⟩ | ⟨c1, c2, c3⟩; exact .inl ⟨c1, c2, c3⟩; exact .inr ⟨c1, c2⟩) hlens now hnow
  generalize hF : (now.flatMap fun q => giveV a (j : Int) (en.at q)) = F at hgl hstep
  have hS := SortFunc_ev F (by omega)
  have hC := Compact_ev (sortQ F) (by rw [sortQ_len]; omega)
  rw [sortQ_len] at hC
  refine (hA.and (lp.and (hS.and (hC.and (Evt.ge 70))))).imp fun k ⟨h1, h2, h3, h5, hk⟩ acts i nw u gl ro lo ha hal hnw hro hlo hu => ?_
  have hlt : i < acts.length := (List.getElem?_eq_some_iff.1 ha).1
  have hlt' : (i : Int) < acts.length := by omega
  have hx : acts[i] = a := (List.getElem?_eq_some_iff.1 ha).2
  -- the inner loop, from its canonical beginning
  obtain ⟨gl1, nx1, u1, k1, k2, k3, k4⟩ := h2 now.length 0 k acts i (.full []) nw u q0 gl ro lo (inS a j en q0 acts i (.full []) nw now.length 0 u gl ro) k [] (by omega) (by simp) (.inl ⟨rfl, rfl⟩) hnw (fun o n m n' m' e _ => by cases e) hro hlo hu (by omega)
    (by
      obtain ⟨nm, an, ex⟩ := a
      rcases hu with rfl | ⟨o3, n3, m3, rfl⟩ <;> rcases hnw with ⟨q', _, rfl⟩ | ⟨o, m, rest, rfl, _⟩
      all_goals simp -implicitDefEqProofs [inS, En.ws, En.at])
  rw [List.nil_append, List.drop_zero, hF] at k1
  rw [List.drop_zero] at k4
  obtain ⟨o, m, rest, rfl, ho, q1, q2, q3, q4⟩ := own_len k1 (by omega)
  have e1 := h3 rest ro gl1 o m ho (by omega) q4
  have hol : o < gl1.length := (List.getElem?_eq_some_iff.1 ho).1
  have ho2 : (gl1.set o (cellsQ (sortQ F) ++ rest))[o]? = some (cellsQ (sortQ F) ++ rest) := by rw [List.getElem?_set, if_pos rfl, if_pos hol]
  obtain ⟨rest', r1, e2⟩ := h5 rest ro _ o m ho2 (by omega) q4 q2
  rw [List.set_set] at e2
  have tail : ∀ S : St, S.hav [3, 9, 10, 12, 27, 28, 29, 42, 43, 44, 55] = inS a j en q0 acts i (.full []) nw now.length 0 u gl ro → loopC Tryz.prog cf 73 (ev k) k (bodyOf Tryz.f73 1) S = some (.exit 2, inS a j en (now.getLastD q0) acts i (.gsl o 0 F.length m 4) nw now.length now.length u1 gl1 ro) := fun S hS => by
    rw [← k4]
    show loopA _ [3, 9, 10, 12, 27, 28, 29, 42, 43, 44, 55] [4, 5] k S = _
    refine loopA_hav ?_ (by omega)
    rw [hS]
    obtain ⟨nm, an, ex⟩ := a
    rcases hu with rfl | ⟨o3, n3, m3, rfl⟩ <;> rcases hnw with ⟨q', _, rfl⟩ | ⟨o, m, rest, rfl, _⟩
    all_goals simp -implicitDefEqProofs [inS, En.ws, En.at]
  have hcl := compQ_len (sortQ F)
  rw [sortQ_len] at hcl
  have hcp : 0 < (compQ (sortQ F)).length := by
    obtain ⟨x, hxm⟩ : ∃ x, x ∈ F := by
      cases F with
      | nil => simp at q4
      | cons x r => exact ⟨x, by simp⟩
    have := (compQ_mem (sortQ F) x).2 ((sortQ_mem F x).2 hxm)
    cases hcq : compQ (sortQ F) with
    | nil => rw [hcq] at this; simp at this
    | cons y r => simp
  rw [hstep]
  refine ⟨gl1.set o (cellsQ (compQ (sortQ F)) ++ rest'), .gsl o 0 (compQ (sortQ F)).length m 4, u1, ⟨o, m, rest', rfl, by rw [List.getElem?_set, if_pos rfl, if_pos hol], q1, by omega, by omega, hcp⟩, by simpa using k2, k3, ?_⟩
  clear k4 h2 h3 h5 hA lp hS hC k1 hstep ho2 hF hlens
  generalize gl1.set o (cellsQ (compQ (sortQ F)) ++ rest') = gl3 at e2 ⊢
  generalize gl1.set o (cellsQ (sortQ F) ++ rest) = gl2 at e1 e2
  generalize (compQ (sortQ F)).length = c at e2 hcl hcp ⊢
  generalize F.length = f at *
  generalize now.getLastD q0 = q' at tail ⊢
  obtain ⟨nm, an, ex⟩ := a
  simp [Ac.w, En.w, En.ws, En.at] at h1
  have w : IntKind.i64.wrap ((i : Int) + 1) = (i : Int) + 1 := i64w _ (by omega)
  by_cases c64 : 64 < c
  · rw [if_pos c64]
    have c64' : (64 : Int) < c := by omega
    rcases hu with rfl | ⟨o3, n3, m3, rfl⟩ <;> rcases hnw with ⟨qq, rfl, rfl⟩ | ⟨o4, m4, rest4, rfl, _⟩
    all_goals
      simp -implicitDefEqProofs [ouS, ouF, En.ws, En.at, bodyOf, loopsOf, hv, Tryz.f73, hlt, hlt', hx, Ac.c, h1]
      refine bind_go (tail _ ?_) ?_
      · simp -implicitDefEqProofs [inS, En.ws, En.at]
      · simp -implicitDefEqProofs [inS, ouS, ouF, hv, En.ws, En.at, e1, e2, c64, c64', w]
  · rw [if_neg c64]
    have c64' : ¬ (64 : Int) < c := by omega
    rcases hu with rfl | ⟨o3, n3, m3, rfl⟩ <;> rcases hnw with ⟨qq, rfl, rfl⟩ | ⟨o4, m4, rest4, rfl, _⟩
    all_goals
      simp -implicitDefEqProofs [ouS, ouF, En.ws, En.at, bodyOf, loopsOf, hv, Tryz.f73, hlt, hlt', hx, Ac.c, h1]
      refine bind_go (tail _ ?_) ?_
      · simp -implicitDefEqProofs [inS, En.ws, En.at]
      · rcases k3 with rfl | ⟨o5, n5, m5, rfl⟩
        all_goals simp -implicitDefEqProofs [inS, ouS, ouF, hv, En.ws, En.at, e1, e2, c64, c64', w]
end Go.Proofs.YtckonoejmjblfaaGreatDoor.Ev

/- Layer 8: Run, the program's; Less. -/
set_option linter.unusedVariables false
set_option linter.unusedSimpArgs false
set_option maxRecDepth 100000
set_option maxHeartbeats 4000000
namespace Go.Proofs.YtckonoejmjblfaaGreatDoor.Ev
open Go Go.RowKit

theorem ou_exit (call : Caller) (N : Nat) (en : En) (q : Q4) (acts : List Ac) (nw : W) (u : V) (gl : List (List W)) (ro : Nat) (hu : UOk u) (hnw : (∃ r, nw = .full [r]) ∨ ∃ o n m, nw = .gsl o 0 n m 4) :
    ((evC Tryz.prog cf 73 call N (bodyOf Tryz.f73 0)) (ouS en q acts acts.length nw u gl ro)).map (hv [3, 7, 27, 28, 29, 55]) = some (.exit 0, ouS en q acts acts.length nw u gl ro) := by
  rcases hu with rfl | ⟨o3, n3, m3, rfl⟩ <;> rcases hnw with ⟨r, rfl⟩ | ⟨o', n2, m', rfl⟩
  all_goals simp -implicitDefEqProofs [ouS, En.ws, En.at, bodyOf, loopsOf, hv, Tryz.f73]
theorem now_form {lo : Nat} {gl : List (List W)} {l : List Q4} {x : W} (h : Now lo gl l x) : (∃ r, x = .full [r]) ∨ ∃ o n m, x = .gsl o 0 n m 4 := by
  rcases h with ⟨q, _, h⟩ | ⟨o, m, r, h, _⟩
  · exact .inl ⟨_, h⟩
  · exact .inr ⟨_, _, _, h⟩
theorem ou_loop (en : En) (hr : ∀ v ∈ en.vars, v.Ok) (h4 : en.vars.length ≤ 4) (hi : en.ins.length < 1000000) : ∀ (r : List Ac) (now : List Q4) (q0 : Q4), (∀ a ∈ r, a.Ok ∧ a.expr.length < 1000000) → now.length ≤ 64 → 0 < now.length →
    Evt fun k => ∀ acts i nw u gl ro lo S n, acts.drop i = r → i ≤ acts.length → acts.length ≤ 100 → Now lo gl now nw → ro ≤ lo → lo ≤ gl.length → UOk u → r.length < n → S.hav [3, 7, 27, 28, 29, 55] = ouS en q0 acts i nw u gl ro →
      ((runV en r now).2 ≠ 0 ∧ ∃ gl', loopA (evC Tryz.prog cf 73 (ev k) k (bodyOf Tryz.f73 0)) [3, 7, 27, 28, 29, 55] [4, 5] n S = some (.ret, ouF (runV en r now).2 gl' ro)) ∨
      ((runV en r now).2 = 0 ∧ ∃ gl' nw' q' u', Now lo gl' (runV en r now).1 nw' ∧ loopA (evC Tryz.prog cf 73 (ev k) k (bodyOf Tryz.f73 0)) [3, 7, 27, 28, 29, 55] [4, 5] n S = some (.exit 0, ouS en q' acts acts.length nw' u' gl' ro))
  | [], now, q0, _, _, _ => .of fun k acts i nw u gl ro lo S n hd hil hal hnw hro hlo hu hn hS => by
    obtain ⟨n, rfl⟩ : ∃ m, n = m + 1 := ⟨n - 1, by omega⟩
    have hl : i = acts.length := by
      have := congrArg List.length hd
      simp at this
      omega
    subst hl
    refine .inr ⟨rfl, gl, nw, q0, u, hnw, loop_exit ?_⟩
    rw [hS]
    exact ou_exit (ev k) k en q0 acts nw u gl ro hu (now_form hnw)
  | a :: r, now, q0, hok, hnow, hpos => by
    have ha := hok a (by simp)
    by_cases he : (aimV a en.vars).2 = 0
    · have hst := stepV_strict a en now
      by_cases c64 : 64 < (stepV a en now).length
      · have hrv : runV en (a :: r) now = ([], 12) := by unfold runV; rw [if_neg (by simp [he]), if_pos c64]
        rw [hrv]
        refine (ou_ok en hr h4 hi a ha.1 ha.2 now hnow hpos q0 he).imp fun k h acts i nw u gl ro lo S n hd hil hal hnw hro hlo hu hn hS => ?_
        obtain ⟨n, rfl⟩ : ∃ m, n = m + 1 := ⟨n - 1, by omega⟩
        have hai : acts[i]? = some a := by
          have := congrArg (fun z => z[0]?) hd
          simpa using this
        obtain ⟨gl', nw', u', h1, h2, h3, h5⟩ := h acts i nw u gl ro lo hai hal hnw hro hlo hu
        rw [if_pos c64] at h5
        refine .inl ⟨by decide, gl', loop_ret ?_⟩
        rw [hS]
        exact h5
      · have hrv : runV en (a :: r) now = runV en r (stepV a en now) := by rw [runV, if_neg (by simp [he]), if_neg c64]
        rw [hrv]
        by_cases hp2 : 0 < (stepV a en now).length
        · refine ((ou_ok en hr h4 hi a ha.1 ha.2 now hnow hpos q0 he).and (ou_loop en hr h4 hi r (stepV a en now) (now.getLastD q0) (fun b hb => hok b (by simp [hb])) (by omega) hp2)).imp fun k ⟨h, ih⟩ acts i nw u gl ro lo S n hd hil hal hnw hro hlo hu hn hS => ?_
          obtain ⟨n, rfl⟩ : ∃ m, n = m + 1 := ⟨n - 1, by omega⟩
          have hai : acts[i]? = some a := by
            have := congrArg (fun z => z[0]?) hd
            simpa using this
          have hlt : i < acts.length := (List.getElem?_eq_some_iff.1 hai).1
          obtain ⟨gl', nw', u', h1, h2, h3, h5⟩ := h acts i nw u gl ro lo hai hal hnw hro hlo hu
          rw [if_neg c64] at h5
          obtain ⟨S', hS', e⟩ := loop_on (by rw [hS]; exact h5)
          rw [e]
          exact ih acts (i + 1) nw' u' gl' ro lo S' n (by rw [← List.drop_drop, hd]; rfl) (by omega) hal (.inr h1) hro h2 h3 (by simp at hn; omega) hS'
        · exfalso
          obtain ⟨x, hx⟩ : ∃ x, x ∈ now := by
            cases now with
            | nil => simp at hpos
            | cons x q => exact ⟨x, by simp⟩
          have hg := (giveV_len he x).1
          obtain ⟨y, hy⟩ : ∃ y, y ∈ giveV a (aimV a en.vars).1 (en.at x) := by
            cases hgg : giveV a (aimV a en.vars).1 (en.at x) with
            | nil => rw [hgg] at hg; simp at hg
            | cons y q => exact ⟨y, by simp⟩
          have := (hst.2 y).2 ⟨x, hx, hy⟩
          cases hss : stepV a en now with
          | nil => rw [hss] at this; simp at this
          | cons y q => rw [hss] at hp2; simp at hp2
    · have hrv : runV en (a :: r) now = ([], (aimV a en.vars).2) := by unfold runV; rw [if_pos he]
      rw [hrv]
      refine (ou_err en hr h4 a ha.1 ha.2 q0 he).imp fun k h acts i nw u gl ro lo S n hd hil hal hnw hro hlo hu hn hS => ?_
      obtain ⟨n, rfl⟩ : ∃ m, n = m + 1 := ⟨n - 1, by omega⟩
      have hai : acts[i]? = some a := by
        have := congrArg (fun z => z[0]?) hd
        simpa using this
      refine .inl ⟨he, gl, loop_ret ?_⟩
      rw [hS]
      exact h k acts i nw u gl ro hai hal
theorem shut_cells {f : W → Option D} (hf : ∀ x, f (.d x) = some x) : ∀ l : List Q4, mapO f (cellsQ l) = some (l.flatMap Q4.r)
  | [] => rfl
  | q :: l => by
    have ih := shut_cells hf l
    have e : cellsQ (q :: l) = W.d (.int .i64 q.a) :: W.d (.int .i64 q.b) :: W.d (.int .i64 q.c) :: W.d (.int .i64 q.d) :: cellsQ l := rfl
    rw [e]
    simp only [mapO, hf, ih, Option.bind_some, Option.map_some]
    rfl
theorem chunk_rows : ∀ l : List Q4, chunk 4 l.length (l.flatMap Q4.r) = l.map Q4.r
  | [] => rfl
  | q :: l => by
    have ih := chunk_rows l
    simp only [List.length_cons, chunk, List.flatMap_cons, List.map_cons]
    rw [List.take_left' (show q.r.length = 4 from rfl), List.drop_left' (show q.r.length = 4 from rfl), ih]
theorem own_shut {lo : Nat} {gl : List (List W)} {l : List Q4} {o m : Nat} {rest : List W} (ho : gl[o]? = some (cellsQ l ++ rest)) (h : lo ≤ o) (hl : l.length ≤ 100000) : W.shut gl lo 3 (.gsl o 0 l.length m 4) = some (.sl (l.map Q4.r)) := by
  have hc : cut (cellsQ l ++ rest) 0 (l.length * 4) = some (cellsQ l) := by
    unfold cut
    rw [if_pos (by rw [List.length_append, cellsQ_len]; omega), List.drop_zero, ← cellsQ_len, List.take_left]
  have e : W.shut gl lo 3 (.gsl o 0 l.length m 4) = if lo ≤ o ∧ l.length * 4 ≤ maxLen then (gl[o]?).bind fun cs => (cut cs 0 (l.length * 4)).bind fun ws => (mapO (W.shut gl lo 2) ws).map fun ds => .sl (chunk 4 l.length ds) else none := rfl
  rw [e, if_pos ⟨h, by rw [maxLen_eq]; omega⟩, ho, Option.bind_some, hc, Option.bind_some, shut_cells (f := W.shut gl lo 2) (fun _ => rfl), Option.map_some, chunk_rows]
theorem runV_len (en : En) : ∀ (r : List Ac) (now : List Q4), now.length ≤ 64 → (runV en r now).1.length ≤ 64
  | [], now, h => h
  | a :: r, now, h => by
    unfold runV
    split
    · simp
    · split
      · simp
      · exact runV_len en r _ (by omega)
theorem runV_err (en : En) : ∀ (r : List Ac) (now : List Q4), (runV en r now).2 ≠ 0 → (runV en r now).1 = []
  | [], now, h => absurd rfl h
  | a :: r, now, h => by
    unfold runV at h ⊢
    split
    · rfl
    · rename_i h1
      rw [if_neg h1] at h
      split
      · rfl
      · rename_i h2
        rw [if_neg h2] at h
        exact runV_err en r _ h
/-- What acts come to. -/
theorem Run_ev (acts : List Ac) (en : En) (hr : ∀ v ∈ en.vars, v.Ok) (hi : en.ins.length < 1000000) (hv : en.vars.length < 1000000) (hok : ∀ a ∈ acts, a.Ok ∧ a.expr.length < 1000000) (hal : acts.length ≤ 100) : Gives 73 [L (acts.map Ac.c), en.w] (.tup [L ((actsV acts en).1.map Q4.r), I (actsV acts en).2]) := by
  have hC := ACheck_ev acts (by omega) fun a ha => (hok a ha).1
  unfold actsV
  by_cases c4 : 4 < en.vars.length
  · rw [if_pos c4]
    have c4' : (4 : Int) < en.vars.length := by omega
    refine .intro Tryz.func73 (by kernel_rfl) (.of fun k ro gl => ?_)
    simp -implicitDefEqProofs [Tryz.f73, En.w, En.ws, c4']
  rw [if_neg c4]
  have c4' : ¬ (4 : Int) < en.vars.length := by omega
  by_cases c5 : checkA acts = 0
  · rw [if_neg (by simp [c5])]
    rw [c5] at hC
    have hlen := runV_len en acts [en.vals] (by simp)
    refine .intro Tryz.func73 (by kernel_rfl) ((hC.and ((ou_loop en hr (by omega) hi acts [en.vals] en.vals hok (by simp) (by simp)).and (Evt.ge 200))).imp fun k ⟨h1, h2, hk⟩ ro gl => ?_)
    have tl := h2 acts 0 (.full [en.vals.r]) V.un gl gl.length gl.length (ouS en en.vals acts 0 (.full [en.vals.r]) V.un gl gl.length) k rfl (Nat.zero_le _) hal (.inl ⟨_, rfl, rfl⟩) (Nat.le_refl _) (Nat.le_refl _) (.inl rfl) (by omega) (by simp [ouS, En.ws, En.at])
    have hin : ∀ (z : Ex × St), loopA (evC Tryz.prog cf 73 (ev k) k (bodyOf Tryz.f73 0)) [3, 7, 27, 28, 29, 55] [4, 5] k (ouS en en.vals acts 0 (.full [en.vals.r]) V.un gl gl.length) = some z → ∀ S : St, S.hav [3, 7, 27, 28, 29, 55] = ouS en en.vals acts 0 (.full [en.vals.r]) V.un gl gl.length → loopC Tryz.prog cf 73 (ev k) k (bodyOf Tryz.f73 0) S = some z := fun z hz S hS => by
      rw [← hz]
      show loopA _ [3, 7, 27, 28, 29, 55] [4, 5] k S = _
      exact loopA_hav (by rw [hS]; simp [ouS, En.ws, En.at]) (by omega)
    clear h2 hk hC
    have herr := runV_err en acts [en.vals]
    generalize runV en acts [en.vals] = R at tl hlen herr ⊢
    obtain ⟨R1, R2⟩ := R
    simp only at tl hlen herr ⊢
    rcases tl with ⟨t1, gl', t2⟩ | ⟨t1, gl', nw', q', u', t3, t2⟩
    · have tail := hin _ t2
      have h0 := herr t1
      subst h0
      clear hin t2
      simp -implicitDefEqProofs [Tryz.f73, En.w, En.ws, c4', h1]
      refine bind_go (tail _ ?_) ?_
      · simp [ouS, En.ws, En.at, Q4.r]
      · simp -implicitDefEqProofs [ouF]
    · subst t1
      have tail := hin _ t2
      clear hin t2
      simp -implicitDefEqProofs [Tryz.f73, En.w, En.ws, c4', h1]
      refine bind_go (tail _ ?_) ?_
      · simp [ouS, En.ws, En.at, Q4.r]
      · rcases t3 with ⟨q, rfl, rfl⟩ | ⟨o, m, rest, rfl, ho, q1, q2, q3, q4⟩
        · simp -implicitDefEqProofs [ouS]
        · have hsh := own_shut (m := m) ho q1 (by omega)
          have ho1 : ¬ o < gl.length := by omega
          simp -implicitDefEqProofs [-W.shut, ouS, hsh, ho1]
  · rw [if_pos c5]
    refine .intro Tryz.func73 (by kernel_rfl) (hC.imp fun k h1 ro gl => ?_)
    generalize checkA acts = c at h1 c5 ⊢
    simp -implicitDefEqProofs [Tryz.f73, En.w, En.ws, c4', h1, c5]
theorem Less_ev (p q : Q4) : Gives 74 [p.w, q.w] (V.bool (ltQ p q)) := by
  have h : GivesX xt 129 [p.w, q.w] (V.int .i64 (cmpL p.l q.l)) := compare_x (by kernel_rfl) (by kernel_rfl) (by kernel_rfl) (by kernel_rfl) p q
  refine .intro Tryz.func74 (by kernel_rfl) (h.imp fun k h ro gl => ?_)
  unfold ltQ
  simp [Q4.w] at h
  generalize cmpL p.l q.l = c at h ⊢
  simp -implicitDefEqProofs [Tryz.f74, Q4.w, h]
end Go.Proofs.YtckonoejmjblfaaGreatDoor.Ev
