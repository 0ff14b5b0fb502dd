/- Layer 8, the document's: rounds of one act. -/
import Derived.Test.YtkklkkppedociaaGreatPkRoP
import Derived.Test.YtkklkkppedociaaGreatPkRoQ
import Derived.Test.YtkklkkppedociaaGreatPkRunB
set_option linter.unusedVariables false
set_option linter.unusedSimpArgs false
set_option maxRecDepth 100000
set_option maxHeartbeats 4000000
namespace Go.Proofs.YtkklkkppedociaaGreat.Ev
open Go Go.RowKit

theorem withQ_len (x : Q4) : ∀ l : List Q4, (withQ l x).length ≤ l.length + 1
  | [] => by simp [withQ]
  | y :: r => by
    have ih := withQ_len x r
    unfold withQ
    split
    · simp; omega
    · split <;> simp
theorem fold_len : ∀ (xs acc : List Q4), (xs.foldl withQ acc).length ≤ acc.length + xs.length
  | [], acc => by simp
  | x :: r, acc => by
    have ih := fold_len r (withQ acc x)
    have := withQ_len x acc
    simp only [List.foldl_cons, List.length_cons]
    omega
theorem r1_in (a : Ac) (en : En) (j : Nat) (hj4 : j < 4) (v : Vr) (hw : -9223372036854775808 ≤ v.lo ∧ v.hi ≤ 9223372036854775807) (hsp : v.lo ≤ v.hi ∧ v.hi - v.lo ≤ 63) (now : List Q4) (hnow : now.length < 1000000) (i : Nat) (q : Q4) (hq : now[i]? = some q) : ∀ (m kk : Nat) (out : List Q4), (kk : Int) + m = v.hi - v.lo + 1 → out.length + m < 1000000 →
    Evt fun k => ∀ N x gl ro S n, Frm out x → m < n → S.hav [2, 3, 4, 8, 9, 11, 12, 13] = r1I a en j v q now x i kk gl ro → ∃ x', Frm (((List.range m).map fun (t : Nat) => q.set j (v.lo + ((kk + t : Nat) : Int))).foldl withQ out) x' ∧
      loopA (evC Tryz.prog cf 20 (ev k) N (bodyOf Tryz.f20 1)) [2, 3, 4, 8, 9, 11, 12, 13] [] n S = some (.exit 2, r1I a en j v q now x' i (kk + m) gl ro)
  | 0, kk, out, hm, hl => .of fun k N x gl ro S n hx hn hS => by
    obtain ⟨n, rfl⟩ : ∃ m, n = m + 1 := ⟨n - 1, by omega⟩
    refine ⟨x, hx, loop_exit ?_⟩
    rw [hS]
    exact r1_in_exit (ev k) N a en j v hw hsp now i q kk (by omega) out x gl ro hx
  | m + 1, kk, out, hm, hl => by
    have h1 := r1_in_round a en j hj4 v hw hsp.2 now hnow i q hq kk (by omega) out (by omega)
    have h2 := r1_in a en j hj4 v hw hsp now hnow i q hq m (kk + 1) (withQ out (q.set j (v.lo + kk))) (by omega) (by have := withQ_len (q.set j (v.lo + kk)) out; omega)
    refine (h1.and h2).imp fun k ⟨h1, h2⟩ N x gl ro S n hx hn hS => ?_
    obtain ⟨n, rfl⟩ : ∃ m, n = m + 1 := ⟨n - 1, by omega⟩
    obtain ⟨S', hS', e⟩ := loop_on (by rw [hS]; exact h1 N x gl ro hx)
    obtain ⟨x', k1, k2⟩ := h2 N _ gl ro S' n (.inr rfl) (by omega) hS'
    refine ⟨x', ?_, by rw [e, k2, show kk + 1 + m = kk + (m + 1) by omega]⟩
    rw [List.range_succ_eq_map, List.map_cons, List.foldl_cons, List.map_map]
    have e2 : ((fun (t : Nat) => q.set j (v.lo + ((kk + t : Nat) : Int))) ∘ Nat.succ) = fun (t : Nat) => q.set j (v.lo + ((kk + 1 + t : Nat) : Int)) := by
      funext t
      simp only [Function.comp]
      rw [show kk + t.succ = kk + 1 + t by omega]
    rw [e2]
    exact k1
/-- One round of the outer loop. -/
theorem r1_round (a : Ac) (en : En) (j : Nat) (hj4 : j < 4) (v : Vr) (hvr : en.vars[j]? = some v) (hr : v.Ok) (hi : en.ins.length < 1000000) (hl : a.expr.length < 1000000) (now : List Q4) (hnow : now.length < 1000000) (h : (a.any = true ∧ v.lo ≤ v.hi ∧ v.hi - v.lo ≤ 63) ∨ (a.any = false ∧ evalE a.expr en.vars = 0)) (i : Nat) (q : Q4) (hq : now[i]? = some q) (out : List Q4) (hout : out.length + 64 < 1000000) :
    Evt fun k => ∀ N x q0 gl ro, Frm out x → 70 ≤ N → ∃ x', Frm ((giveV a j (en.at q)).foldl withQ out) x' ∧ ((evC Tryz.prog cf 20 (ev k) N (bodyOf Tryz.f20 0)) (r1S a en j v q0 now x i gl ro)).map (hv [2, 3, 4, 8, 9, 11, 12]) = some (.normal, r1S a en j v q now x' (i + 1) gl ro) := by
  have hlt : i < now.length := (List.getElem?_eq_some_iff.1 hq).1
  have hlt' : (i : Int) < now.length := by omega
  have hxx : now[i] = q := (List.getElem?_eq_some_iff.1 hq).2
  have w : IntKind.i64.wrap ((i : Int) + 1) = (i : Int) + 1 := i64w _ (by omega)
  rcases h with ⟨ha, h1, h2⟩ | ⟨ha, h1⟩
  · obtain ⟨n, hn⟩ : ∃ n : Nat, (v.hi - v.lo + 1).toNat = n := ⟨_, rfl⟩
    have hg : giveV a j (en.at q) = (List.range n).map fun (t : Nat) => q.set j (v.lo + ((0 + t : Nat) : Int)) := by
      unfold giveV
      have : (en.at q).vars[(j : Int).toNat]? = some v := by simpa [En.at] using hvr
      rw [this]
      simp only [ha, if_true, hn, Nat.zero_add]
      rfl
    rw [hg]
    refine (r1_in a en j hj4 v ⟨hr.1.1, hr.2.2⟩ ⟨h1, h2⟩ now hnow i q hq n 0 out (by omega) (by omega)).imp fun k h3 N x q0 gl ro hx hN => ?_
    obtain ⟨x', k1, k2⟩ := h3 N x gl ro (r1I a en j v q now x i 0 gl ro) N hx (by omega) (by rcases hx with ⟨rfl, rfl⟩ | rfl <;> simp [r1I, En.ws, En.at])
    refine ⟨x', k1, ?_⟩
    rw [Nat.zero_add] at k2
    have tail : ∀ S : St, S.hav [2, 3, 4, 8, 9, 11, 12, 13] = r1I a en j v q now x i 0 gl ro → loopC Tryz.prog cf 20 (ev k) N (bodyOf Tryz.f20 1) S = some (.exit 2, r1I a en j v q now x' i n gl ro) := fun S hS => by
      rw [← k2]
      show loopA _ [2, 3, 4, 8, 9, 11, 12, 13] [] N S = _
      refine loopA_hav ?_ (by omega)
      rw [hS]
      rcases hx with ⟨rfl, rfl⟩ | rfl <;> simp [r1I, En.ws, En.at]
    clear h3 k2 hg
    obtain ⟨nm, an, ex⟩ := a
    simp only at ha
    subst ha
    rcases hx with ⟨rfl, rfl⟩ | rfl
    all_goals
      simp -implicitDefEqProofs [r1S, En.ws, En.at, bodyOf, loopsOf, hv, Tryz.f20, hlt, hlt', hxx, Q4.r]
      refine bind_go (tail _ ?_) ?_
      · simp [r1I, En.ws, En.at]
      · rcases k1 with ⟨_, rfl⟩ | rfl
        all_goals simp -implicitDefEqProofs [r1I, r1S, En.ws, En.at, hv, w]
  · have hg : giveV a j (en.at q) = [q.set j (clamp (valV a.expr (en.at q)) v.lo v.hi)] := by
      unfold giveV
      have : (en.at q).vars[(j : Int).toNat]? = some v := by simpa [En.at] using hvr
      rw [this]
      simp only [ha]
      rfl
    rw [hg, List.foldl_cons, List.foldl_nil]
    have hA := rAtV_ev (en.at q) hi a.expr hl h1
    have hW := rWith_ev out (q.set j (clamp (valV a.expr (en.at q)) v.lo v.hi)) (by omega)
    have key : Evt fun k => ∀ N x q0 gl ro, Frm out x → ((evC Tryz.prog cf 20 (ev k) N (bodyOf Tryz.f20 0)) (r1S a en j v q0 now x i gl ro)).map (hv [2, 3, 4, 8, 9, 11, 12]) = some (.normal, r1S a en j v q now (.d (.sl ((withQ out (q.set j (clamp (valV a.expr (en.at q)) v.lo v.hi))).map Q4.r))) (i + 1) gl ro) := by
      unfold clamp at hW ⊢
      by_cases c1 : valV a.expr (en.at q) < v.lo
      · rw [if_pos c1] at hW ⊢
        by_cases c2 : v.hi < valV a.expr (en.at q)
        · exact r1_nA a en j hj4 v now hnow i q hq ha out _ _ hA hW c1 c2
        · exact r1_nB a en j hj4 v now hnow i q hq ha out _ _ hA hW c1 c2
      · rw [if_neg c1] at hW ⊢
        by_cases c2 : v.hi < valV a.expr (en.at q)
        · rw [if_pos c2] at hW ⊢
          exact r1_nC a en j hj4 v now hnow i q hq ha out _ _ hA hW c1 c2
        · rw [if_neg c2] at hW ⊢
          exact r1_nD a en j hj4 v now hnow i q hq ha out _ _ hA hW c1 c2
    exact key.imp fun k g N x q0 gl ro hx _ => ⟨_, .inr rfl, g N x q0 gl ro hx⟩
theorem r1_exit (call : Caller) (N : Nat) (a : Ac) (en : En) (j : Nat) (v : Vr) (q : Q4) (now : List Q4) (out : List Q4) (x : W) (gl : List (List W)) (ro : Nat) (hx : Frm out x) :
    ((evC Tryz.prog cf 20 call N (bodyOf Tryz.f20 0)) (r1S a en j v q now x now.length gl ro)).map (hv [2, 3, 4, 8, 9, 11, 12]) = some (.exit 0, r1S a en j v q now x now.length gl ro) := by
  rcases hx with ⟨rfl, rfl⟩ | rfl
  all_goals simp -implicitDefEqProofs [r1S, En.ws, En.at, bodyOf, loopsOf, hv, Tryz.f20]
end Go.Proofs.YtkklkkppedociaaGreat.Ev

/- Layer 8, the document's: one act; Run. -/
set_option linter.unusedVariables false
set_option linter.unusedSimpArgs false
set_option maxRecDepth 100000
set_option maxHeartbeats 4000000
namespace Go.Proofs.YtkklkkppedociaaGreat.Ev
open Go Go.RowKit

theorem r1_out (a : Ac) (en : En) (j : Nat) (hj4 : j < 4) (v : Vr) (hvr : en.vars[j]? = some v) (hr : v.Ok) (hi : en.ins.length < 1000000) (hl : a.expr.length < 1000000) (now : List Q4) (hnow : now.length < 1000) (h : (a.any = true ∧ v.lo ≤ v.hi ∧ v.hi - v.lo ≤ 63) ∨ (a.any = false ∧ evalE a.expr en.vars = 0)) (hG : ∀ q, (giveV a j (en.at q)).length ≤ 64) : ∀ (m i : Nat) (out : List Q4), i + m = now.length → out.length + 64 * m < 900000 →
    Evt fun k => ∀ N x q0 gl ro S n, Frm out x → 70 ≤ N → m < n → S.hav [2, 3, 4, 8, 9, 11, 12] = r1S a en j v q0 now x i gl ro → ∃ x' q', Frm (((now.drop i).flatMap fun q => giveV a j (en.at q)).foldl withQ out) x' ∧
      loopA (evC Tryz.prog cf 20 (ev k) N (bodyOf Tryz.f20 0)) [2, 3, 4, 8, 9, 11, 12] [] n S = some (.exit 0, r1S a en j v q' now x' now.length gl ro)
  | 0, i, out, hm, hlen => .of fun k N x q0 gl ro S n hx hN hn hS => by
    obtain ⟨n, rfl⟩ : ∃ m, n = m + 1 := ⟨n - 1, by omega⟩
    have hk : i = now.length := by omega
    subst hk
    refine ⟨x, q0, ?_, loop_exit ?_⟩
    · rw [List.drop_of_length_le (Nat.le_refl _)]; exact hx
    · rw [hS]
      exact r1_exit (ev k) N a en j v q0 now out x gl ro hx
  | m + 1, i, out, hm, hlen => by
    have ca : now[i]? = some now[i] := List.getElem?_eq_getElem (by omega)
    have hdr : now.drop i = now[i] :: now.drop (i + 1) := List.drop_eq_getElem_cons (by omega)
    generalize now[i] = q at ca hdr
    have hfl := fold_len (giveV a j (en.at q)) out
    have hgq := hG q
    have h1 := r1_round a en j hj4 v hvr hr hi hl now (by omega) h i q ca out (by omega)
    have h2 := r1_out a en j hj4 v hvr hr hi hl now hnow h hG m (i + 1) ((giveV a j (en.at q)).foldl withQ out) (by omega) (by omega)
    refine (h1.and h2).imp fun k ⟨h1, h2⟩ N x q0 gl ro S n hx hN hn hS => ?_
    obtain ⟨n, rfl⟩ : ∃ m, n = m + 1 := ⟨n - 1, by omega⟩
    obtain ⟨x1, g1, g2⟩ := h1 N x q0 gl ro hx hN
    obtain ⟨S', hS', e⟩ := loop_on (by rw [hS]; exact g2)
    obtain ⟨x', q', k1, k2⟩ := h2 N x1 q gl ro S' n g1 hN (by omega) hS'
    refine ⟨x', q', ?_, by rw [e, k2]⟩
    rw [hdr, List.flatMap_cons, List.foldl_append]
    exact k1
/-- One act, by the document. -/
def oneV (a : Ac) (en : En) (now : List Q4) : List Q4 × Int := if (aimV a en.vars).2 ≠ 0 then ([], (aimV a en.vars).2) else if 64 < (stepV a en now).length then ([], 12) else (stepV a en now, 0)
theorem rone_ev (a : Ac) (en : En) (now : List Q4) (hok : a.Ok) (hl : a.expr.length < 1000000) (hr : ∀ v ∈ en.vars, v.Ok) (h4 : en.vars.length ≤ 4) (hi : en.ins.length < 1000000) (hnow : now.length ≤ 64) : Gives 20 [a.w, en.w, L (now.map Q4.r)] (.tup [L ((oneV a en now).1.map Q4.r), I (oneV a en now).2]) := by
  have hP := rvPlace_ev en a.name (by omega)
  have hC := rCheckE_ev a.expr en hok.names hl (by omega)
  unfold oneV
  by_cases he : (aimV a en.vars).2 = 0
  · rw [if_neg (by simp [he])]
    obtain ⟨v, p0, hv', p1, hc⟩ := aimV_ok he
    have hlens := fun q => giveV_len he q
    have hstep : stepV a en now = (now.flatMap fun q => giveV a (aimV a en.vars).1 (en.at q)).foldl withQ [] := rfl
    rw [p1] at hlens hstep
    have hp4 := (placeV_lt4 p0).1
    obtain ⟨j, hj⟩ : ∃ j : Nat, placeV en.vars a.name = j := ⟨(placeV en.vars a.name).toNat, by omega⟩
    rw [hj] at hlens hstep hv' hp4 hP
    rw [Int.toNat_natCast] at hv' hp4
    have hvk := hr v (List.mem_of_getElem? hv')
    have lp := r1_out a en j (by omega) v hv' hvk hi hl now (by omega) (by rcases hc with ⟨c1, c2, c3⟩ | ⟨c1, c2, c3⟩; exact .inl ⟨c1, c2, c3⟩; exact .inr ⟨c1, c2⟩) (fun q => (hlens q).2) now.length 0 [] (by omega) (by simp; omega)
    rw [List.drop_zero, ← hstep] at lp
    have hjl : (j : Int) < en.vars.length := by omega
    have j0 : ¬ (j : Int) < 0 := by omega
    have hxx : en.vars[j] = v := (List.getElem?_eq_some_iff.1 hv').2
    have fin : ∀ k, (∀ N x q0 gl ro S n, Frm [] x → 70 ≤ N → now.length < n → S.hav [2, 3, 4, 8, 9, 11, 12] = r1S a en j v q0 now x 0 gl ro → ∃ x' q', Frm (stepV a en now) x' ∧ loopA (evC Tryz.prog cf 20 (ev k) N (bodyOf Tryz.f20 0)) [2, 3, 4, 8, 9, 11, 12] [] n S = some (.exit 0, r1S a en j v q' now x' now.length gl ro)) → 100 ≤ k → ∀ gl : List (List W), ∃ x' q', Frm (stepV a en now) x' ∧ ∀ S : St, S.hav [2, 3, 4, 8, 9, 11, 12] = r1S a en j v en.vals now (.full []) 0 gl gl.length → loopC Tryz.prog cf 20 (ev k) k (bodyOf Tryz.f20 0) S = some (.exit 0, r1S a en j v q' now x' now.length gl gl.length) := fun k hk h100 gl => by
      obtain ⟨x', q', k1, k2⟩ := hk k (.full []) en.vals gl gl.length (r1S a en j v en.vals now (.full []) 0 gl gl.length) k (.inl ⟨rfl, rfl⟩) (by omega) (by omega) (by simp [r1S, En.ws, En.at])
      refine ⟨x', q', k1, fun S hS => ?_⟩
      rw [← k2]
      show loopA _ [2, 3, 4, 8, 9, 11, 12] [] k S = _
      exact loopA_hav (by rw [hS]; simp [r1S, En.ws, En.at]) (by omega)
    clear hstep hlens
    generalize stepV a en now = F at lp fin ⊢
    rcases hc with ⟨c1, c2, c3⟩ | ⟨c1, c2, c3⟩
    · refine .intro Tryz.func20 (by kernel_rfl) ((hP.and (lp.and (Evt.ge 100))).imp fun k ⟨g1, g2, g3⟩ ro gl => ?_)
      obtain ⟨x', q', k1, tail⟩ := fin k g2 g3 gl
      have hu := span_u hvk.1 hvk.2 c2
      have d1 : ¬ v.hi < v.lo := by omega
      have d2 : ¬ 63 < v.hi - v.lo := by omega
      clear lp fin g2 hP hC
      obtain ⟨nm, an, ex⟩ := a
      simp only at c1 g1
      subst c1
      simp [En.w, En.ws] at g1
      simp -implicitDefEqProofs [Tryz.f20, Ac.w, En.w, En.ws, g1, j0, hp4, hjl, hxx, Vr.c, hu, d1, d2]
      refine bind_go (tail _ ?_) ?_
      · simp [r1S, En.ws, En.at]
      · by_cases c64 : 64 < F.length
        · have c64' : (64 : Int) < F.length := by omega
          rw [if_pos c64]
          rcases k1 with ⟨rfl, rfl⟩ | rfl
          · simp at c64
          · simp -implicitDefEqProofs [r1S, c64']
        · have c64' : ¬ (64 : Int) < F.length := by omega
          rw [if_neg c64]
          rcases k1 with ⟨rfl, rfl⟩ | rfl
          · simp -implicitDefEqProofs [r1S]
          · simp -implicitDefEqProofs [r1S, c64']
    · have hT := rTypeV_ev a.expr en.vars hl c2
      rw [c2] at hC
      rw [c3] at hT
      refine .intro Tryz.func20 (by kernel_rfl) ((hP.and (hC.and (hT.and (lp.and (Evt.ge 100))))).imp fun k ⟨g1, g4, g5, g2, g3⟩ ro gl => ?_)
      obtain ⟨x', q', k1, tail⟩ := fin k g2 g3 gl
      clear lp fin g2 hP hC hT
      obtain ⟨nm, an, ex⟩ := a
      simp only at c1 g1 g4 g5
      subst c1
      simp [En.w, En.ws] at g1 g4
      simp -implicitDefEqProofs [Tryz.f20, Ac.w, En.w, En.ws, g1, g4, g5, j0, hp4, hjl, hxx, Vr.c]
      refine bind_go (tail _ ?_) ?_
      · simp [r1S, En.ws, En.at]
      · by_cases c64 : 64 < F.length
        · have c64' : (64 : Int) < F.length := by omega
          rw [if_pos c64]
          rcases k1 with ⟨rfl, rfl⟩ | rfl
          · simp at c64
          · simp -implicitDefEqProofs [r1S, c64']
        · have c64' : ¬ (64 : Int) < F.length := by omega
          rw [if_neg c64]
          rcases k1 with ⟨rfl, rfl⟩ | rfl
          · simp -implicitDefEqProofs [r1S]
          · simp -implicitDefEqProofs [r1S, c64']
  · rw [if_pos he]
    unfold aimV at he ⊢
    by_cases c0 : placeV en.vars a.name < 0
    · rw [if_pos c0]
      refine .intro Tryz.func20 (by kernel_rfl) (hP.imp fun k g1 ro gl => ?_)
      clear hP hC he
      generalize placeV en.vars a.name = p at g1 c0
      obtain ⟨nm, an, ex⟩ := a
      simp [En.w, En.ws] at g1
      simp -implicitDefEqProofs [Tryz.f20, Ac.w, En.w, En.ws, g1, c0]
    · rw [if_neg c0] at he ⊢
      have hp4 := (placeV_lt4 (s := a.name) (vs := en.vars) (by omega)).1
      obtain ⟨j, hj⟩ : ∃ j : Nat, placeV en.vars a.name = j := ⟨(placeV en.vars a.name).toNat, by omega⟩
      rw [hj] at hP hp4 he ⊢
      rw [Int.toNat_natCast] at hp4 he ⊢
      have hjl : (j : Int) < en.vars.length := by omega
      have j0 : ¬ (j : Int) < 0 := by omega
      have ca : en.vars[j]? = some en.vars[j] := List.getElem?_eq_getElem hp4
      have hvk := hr en.vars[j] (List.getElem_mem hp4)
      rw [ca] at he ⊢
      generalize hxx : en.vars[j] = v at hvk he ⊢
      simp only at he ⊢
      by_cases hany : a.any = true
      · rw [if_pos hany] at he ⊢
        by_cases c1 : v.hi < v.lo ∨ 63 < v.hi - v.lo
        · rw [if_pos c1]
          refine .intro Tryz.func20 (by kernel_rfl) (hP.imp fun k g1 ro gl => ?_)
          clear hP hC he
          obtain ⟨nm, an, ex⟩ := a
          simp only at hany g1
          subst hany
          simp [En.w, En.ws] at g1
          by_cases d1 : v.hi < v.lo
          · simp -implicitDefEqProofs [Tryz.f20, Ac.w, En.w, En.ws, g1, j0, hp4, hjl, hxx, Vr.c, d1]
          · have hu := span_u hvk.1 hvk.2 (by omega)
            have d2 : 63 < v.hi - v.lo := by omega
            simp -implicitDefEqProofs [Tryz.f20, Ac.w, En.w, En.ws, g1, j0, hp4, hjl, hxx, Vr.c, d1, hu, d2]
        · rw [if_neg c1] at he
          exact absurd rfl he
      · rw [if_neg hany] at he ⊢
        have hany' : a.any = false := by simpa using hany
        by_cases c1 : evalE a.expr en.vars = 0
        · rw [if_neg (by simp [c1])] at he ⊢
          have hT := rTypeV_ev a.expr en.vars hl c1
          rw [c1] at hC
          by_cases c2 : tyV a.expr = 1
          · rw [if_neg (by simp [c2])] at he
            exact absurd rfl he
          · rw [if_pos c2]
            refine .intro Tryz.func20 (by kernel_rfl) ((hP.and (hC.and hT)).imp fun k ⟨g1, g4, g5⟩ ro gl => ?_)
            clear hP hC hT he
            generalize tyV a.expr = y at c2 g5
            obtain ⟨nm, an, ex⟩ := a
            simp only at hany' g1 g4 g5
            subst hany'
            simp [En.w, En.ws] at g1 g4
            simp -implicitDefEqProofs [Tryz.f20, Ac.w, En.w, En.ws, g1, g4, g5, j0, hp4, hjl, hxx, Vr.c, c2]
        · rw [if_pos c1]
          refine .intro Tryz.func20 (by kernel_rfl) ((hP.and hC).imp fun k ⟨g1, g4⟩ ro gl => ?_)
          clear hP hC he
          generalize evalE a.expr en.vars = e at c1 g4 ⊢
          obtain ⟨nm, an, ex⟩ := a
          simp only at hany' g1 g4
          subst hany'
          simp [En.w, En.ws] at g1 g4
          simp -implicitDefEqProofs [Tryz.f20, Ac.w, En.w, En.ws, g1, g4, j0, hp4, hjl, hxx, Vr.c, c1]
end Go.Proofs.YtkklkkppedociaaGreat.Ev

/- Layer 8, the document's: Run. -/
set_option linter.unusedVariables false
set_option linter.unusedSimpArgs false
set_option maxRecDepth 100000
set_option maxHeartbeats 4000000
namespace Go.Proofs.YtkklkkppedociaaGreat.Ev
open Go Go.RowKit

/-! Run. -/
def rrS (acts : List Ac) (en : En) (x : W) (i : Nat) (gl : List (List W)) (ro : Nat) : St := st 44 [(0, .c (L (acts.map Ac.c))), (3, .c (.w (.box 3 0))), (7, .c (.w x)), (8, V.int .i64 i)] [(3, en.ws)] [] gl ro
def rrF (e : Int) (gl : List (List W)) (ro : Nat) : St := st 44 [(4, .c (.w (.full []))), (5, V.int .i64 e)] [] [] gl ro
def FrN (l : List Q4) (x : W) : Prop := x = .full (l.map Q4.r) ∨ x = .d (.sl (l.map Q4.r))
theorem rr_round (acts : List Ac) (en : En) (a : Ac) (i : Nat) (ha : acts[i]? = some a) (hal : acts.length ≤ 100) (now : List Q4) (hone : Gives 20 [a.w, en.w, L (now.map Q4.r)] (.tup [L ((oneV a en now).1.map Q4.r), I (oneV a en now).2])) :
    Evt fun k => ∀ N x gl ro, FrN now x → (evC Tryz.prog cf 8 (ev k) N (bodyOf Tryz.f8 0) (rrS acts en x i gl ro)).map (hv (if (oneV a en now).2 ≠ 0 then [4, 5] else [0, 3, 7, 8])) = some (if (oneV a en now).2 ≠ 0 then (.ret, rrF (oneV a en now).2 gl ro) else (.normal, rrS acts en (.d (.sl ((oneV a en now).1.map Q4.r))) (i + 1) gl ro)) := by
  refine hone.imp fun k h1 N x gl ro hx => ?_
  have hlt : i < acts.length := (List.getElem?_eq_some_iff.1 ha).1
  have hlt' : (i : Int) < acts.length := by omega
  have hxx : acts[i] = a := (List.getElem?_eq_some_iff.1 ha).2
  have w : IntKind.i64.wrap ((i : Int) + 1) = (i : Int) + 1 := i64w _ (by omega)
  clear hone
  generalize oneV a en now = r at h1 ⊢
  obtain ⟨r1, r2⟩ := r
  simp only at h1 ⊢
  generalize r1.map Q4.r = O at h1 ⊢
  obtain ⟨nm, an, ex⟩ := a
  simp [Ac.w, En.w, En.ws] at h1
  by_cases c : r2 = 0
  · subst c
    simp only [ne_eq, not_true_eq_false, if_false]
    rcases hx with rfl | rfl
    all_goals simp -implicitDefEqProofs [rrS, En.ws, bodyOf, loopsOf, hv, Tryz.f8, hlt, hlt', hxx, Ac.c, h1, w]
  · simp only [ne_eq, c, not_false_eq_true, if_true]
    rcases hx with rfl | rfl
    all_goals simp -implicitDefEqProofs [rrS, rrF, En.ws, bodyOf, loopsOf, hv, Tryz.f8, hlt, hlt', hxx, Ac.c, h1, w, c]
theorem rr_exit (call : Caller) (N : Nat) (acts : List Ac) (en : En) (l : List Q4) (x : W) (gl : List (List W)) (ro : Nat) (hx : FrN l x) :
    ((evC Tryz.prog cf 8 call N (bodyOf Tryz.f8 0)) (rrS acts en x acts.length gl ro)).map (hv [0, 3, 7, 8]) = some (.exit 0, rrS acts en x acts.length gl ro) := by
  rcases hx with rfl | rfl
  all_goals simp -implicitDefEqProofs [rrS, En.ws, bodyOf, loopsOf, hv, Tryz.f8]
theorem rr_loop (acts : List Ac) (en : En) (hr : ∀ v ∈ en.vars, v.Ok) (h4 : en.vars.length ≤ 4) (hi : en.ins.length < 1000000) (hok : ∀ a ∈ acts, a.Ok ∧ a.expr.length < 1000000) (hal : acts.length ≤ 100) : ∀ (r : List Ac) (i : Nat) (now : List Q4), acts.drop i = r → i ≤ acts.length → now.length ≤ 64 →
    Evt fun k => ∀ N x gl ro S n, FrN now x → r.length < n → S.hav [0, 3, 7, 8] = rrS acts en x i gl ro →
      ∃ x', FrN (runV en r now).1 x' ∧ loopA (evC Tryz.prog cf 8 (ev k) N (bodyOf Tryz.f8 0)) [0, 3, 7, 8] [4, 5] n S = some (if (runV en r now).2 ≠ 0 then (.ret, rrF (runV en r now).2 gl ro) else (.exit 0, rrS acts en x' acts.length gl ro))
  | [], i, now, hd, hil, hnow => .of fun k N x gl ro S n hx hn hS => by
    obtain ⟨n, rfl⟩ : ∃ m, n = m + 1 := ⟨n - 1, by omega⟩
    have hl : i = acts.length := by
      have := congrArg List.length hd
      simp at this
      omega
    subst hl
    refine ⟨x, hx, ?_⟩
    show _ = some (Ex.exit 0, rrS acts en x acts.length gl ro)
    refine loop_exit ?_
    rw [hS]
    exact rr_exit (ev k) N acts en now x gl ro hx
  | a :: r, i, now, hd, hil, hnow => by
    have hai : acts[i]? = some a := by
      have := congrArg (fun z => z[0]?) hd
      simpa using this
    have hlt : i < acts.length := (List.getElem?_eq_some_iff.1 hai).1
    have ha := hok a (List.mem_of_getElem? hai)
    have hone := rone_ev a en now ha.1 ha.2 hr h4 hi hnow
    have hro := rr_round acts en a i hai hal now hone
    by_cases he : (oneV a en now).2 = 0
    · have hrv : runV en (a :: r) now = runV en r (oneV a en now).1 ∧ (oneV a en now).1.length ≤ 64 := by
        unfold oneV at he ⊢
        rw [runV]
        split
        · rename_i h1; rw [if_pos h1] at he; exact absurd he h1
        · rename_i h1
          rw [if_neg h1] at he
          split
          · rename_i h2; rw [if_pos h2] at he; cases he
          · rename_i h2; exact ⟨rfl, by simp only; omega⟩
      rw [hrv.1]
      refine (hro.and (rr_loop acts en hr h4 hi hok hal r (i + 1) (oneV a en now).1 (by rw [← List.drop_drop, hd]; rfl) (by omega) hrv.2)).imp fun k ⟨h1, ih⟩ N x gl ro S n hx hn hS => ?_
      obtain ⟨n, rfl⟩ : ∃ m, n = m + 1 := ⟨n - 1, by omega⟩
      have h1 := h1 N x gl ro hx
      rw [if_neg (by simp [he]), if_neg (by simp [he])] at h1
      obtain ⟨S', hS', e⟩ := loop_on (by rw [hS]; exact h1)
      rw [e]
      exact ih N _ gl ro S' n (.inr rfl) (by simp at hn; omega) hS'
    · have hrv : runV en (a :: r) now = ([], (oneV a en now).2) := by
        unfold oneV at he ⊢
        rw [runV]
        split
        · rfl
        · rename_i h1
          rw [if_neg h1] at he
          split
          · rfl
          · rename_i h2; rw [if_neg h2] at he; exact absurd rfl he
      rw [hrv]
      refine hro.imp fun k h1 N x gl ro S n hx hn hS => ?_
      obtain ⟨n, rfl⟩ : ∃ m, n = m + 1 := ⟨n - 1, by omega⟩
      have h1 := h1 N x gl ro hx
      rw [if_pos he, if_pos he] at h1
      refine ⟨.full [], .inl rfl, ?_⟩
      rw [if_pos he]
      refine loop_ret ?_
      rw [hS]
      exact h1
/-- What acts come to, by the document. -/
theorem rRun_ev (acts : List Ac) (en : En) (hr : ∀ v ∈ en.vars, v.Ok) (hi : en.ins.length < 1000000) (hok : ∀ a ∈ acts, a.Ok ∧ a.expr.length < 1000000) (hal : acts.length ≤ 100) : Gives 8 [L (acts.map Ac.c), en.w] (.tup [L ((actsV acts en).1.map Q4.r), I (actsV acts en).2]) := by
  have hC := rACheck_ev acts (by omega) fun a ha => (hok a ha).1
  unfold actsV
  by_cases c4 : 4 < en.vars.length
  · rw [if_pos c4]
    have c4' : (4 : Int) < en.vars.length := by omega
    refine .intro Tryz.func8 (by kernel_rfl) (.of fun k ro gl => ?_)
    simp -implicitDefEqProofs [Tryz.f8, En.w, En.ws, c4']
  rw [if_neg c4]
  have c4' : ¬ (4 : Int) < en.vars.length := by omega
  by_cases c5 : checkA acts = 0
  · rw [if_neg (by simp [c5])]
    rw [c5] at hC
    have herr := runV_err en acts [en.vals]
    refine .intro Tryz.func8 (by kernel_rfl) ((hC.and ((rr_loop acts en hr (by omega) hi hok hal acts 0 [en.vals] rfl (Nat.zero_le _) (by simp)).and (Evt.ge 200))).imp fun k ⟨h1, h2, hk⟩ ro gl => ?_)
    obtain ⟨x', k1, k2⟩ := h2 k (.full [en.vals.r]) gl gl.length (rrS acts en (.full [en.vals.r]) 0 gl gl.length) k (.inl rfl) (by omega) (by simp [rrS, En.ws])
    have tail := fun (S : St) (hS : S.hav [0, 3, 7, 8] = rrS acts en (.full [en.vals.r]) 0 gl gl.length) => (show loopC Tryz.prog cf 8 (ev k) k (bodyOf Tryz.f8 0) S = loopA (evC Tryz.prog cf 8 (ev k) k (bodyOf Tryz.f8 0)) [0, 3, 7, 8] [4, 5] k (rrS acts en (.full [en.vals.r]) 0 gl gl.length) from loopA_hav (keep := [0, 3, 7, 8]) (res := [4, 5]) (by rw [hS]; simp [rrS, En.ws]) (by omega)).trans k2
    clear h2 hk hC k2
    generalize runV en acts [en.vals] = R at k1 herr tail ⊢
    obtain ⟨R1, R2⟩ := R
    simp only at k1 herr tail ⊢
    simp -implicitDefEqProofs [Tryz.f8, En.w, En.ws, c4', h1]
    refine bind_go (tail _ ?_) ?_
    · simp [rrS, En.ws, Q4.r]
    · by_cases c : R2 = 0
      · subst c
        rw [if_neg (by simp)]
        rcases k1 with rfl | rfl
        all_goals simp -implicitDefEqProofs [rrS]
      · have h0 := herr c
        subst h0
        rw [if_pos c]
        simp -implicitDefEqProofs [rrF]
  · rw [if_pos c5]
    refine .intro Tryz.func8 (by kernel_rfl) (hC.imp fun k h1 ro gl => ?_)
    generalize checkA acts = c at h1 c5 ⊢
    simp -implicitDefEqProofs [Tryz.f8, En.w, En.ws, c4', h1, c5]
end Go.Proofs.YtkklkkppedociaaGreat.Ev
