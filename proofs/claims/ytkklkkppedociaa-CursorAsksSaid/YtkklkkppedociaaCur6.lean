/- Layer 4: any asks of any tokens. -/
import Derived.Test.YtkklkkppedociaaCur5
set_option linter.unusedVariables false
set_option linter.unusedSimpArgs false
set_option maxRecDepth 100000
set_option maxHeartbeats 4000000
namespace Go.Proofs.Ytkklkkppedociaa.Ev
open Go Go.RowKit

def doAsk (a : Ask) (c : Cu) : Cu :=
  if a.op = 0 then c.take a.kd a.tx else if a.op = 1 then c.want a.kd a.tx else if a.op = 2 then c.name.1 else if a.op = 3 then (c.number a.n).1 else if a.op = 4 then c else c.fail a.n
theorem doAsk_ok (a : Ask) {c : Cu} (h : c.Ok) : (doAsk a c).Ok := by
  unfold doAsk
  repeat' split
  · exact h.take _ _
  · exact h.want _ _
  · exact h.name
  · exact h.number _
  · exact h
  · exact h.fail _
def caS (asks : List Ask) (c : Cu) (i : Nat) : St := st 183 [(1, .c (L (asks.map Ask.c))), (6, .c (.w (.glo 0 0))), (7, .c (.w (.box 7 0))), (8, V.int .i64 i)]
  [(7, [.d (.sl (c.r.map Tk.c)), .d (.int .i64 (was c.p).ln), .d (.int .i64 (was c.p).cl), .d (.int .i64 c.ln), .d (.int .i64 c.cl), .d (.int .i64 c.e)])] [] [c.w] false
theorem one_get (x : List W) : ([x] : List (List W))[0]? = some x := rfl
theorem ca_round (a : Ask) (p r : List Ask) (c : Cu) (hc : c.Ok) (hp : p.length < 4611686018427387904) : Evt fun k => ∀ N,
    (evC Try.prog cf 6 (ev k) N (bodyOf Try.f6 1) (caS (p ++ a :: r) c p.length)).map (hv [1, 6, 7, 8]) = some (.normal, caS (p ++ a :: r) (doAsk a c) (p.length + 1)) := by
  have g := one_get c.w
  have hlt : (p.length : Int) < p.length + (r.length + 1) := by omega
  have w : IntKind.i64.wrap ((p.length : Int) + 1) = (p.length : Int) + 1 := i64w _ (by omega)
  have f1 := (next_c g hc).and ((rNext_c (c := c)).and (good_c g))
  have f2 := fault_ev (one_get (doAsk a c).w)
  unfold doAsk at f2 ⊢
  by_cases h0 : a.op = 0
  · rw [if_pos h0] at f2 ⊢
    refine (f1.and (f2.and ((take_c g hc a.kd a.tx).and (rTake_c hc a.kd a.tx)))).imp fun k ⟨⟨h1, h2, h3⟩, h4, h5, h6⟩ N => ?_
    simp only [Cu.w, cW, Cu.ref, cR, Tk.w, List.set_cons_zero] at h1 h2 h3 h4 h5 h6
    simp -implicitDefEqProofs [caS, bodyOf, loopsOf, hv, Try.f6, Ask.c, Cu.w, cW, hlt, w, h0, h1, h2, h3, h4, h5, h6]
  rw [if_neg h0] at f2 ⊢
  by_cases h01 : a.op = 1
  · rw [if_pos h01] at f2 ⊢
    refine (f1.and (f2.and ((want_c g hc a.kd a.tx).and (rWant_c hc a.kd a.tx)))).imp fun k ⟨⟨h1, h2, h3⟩, h4, h5, h6⟩ N => ?_
    simp only [Cu.w, cW, Cu.ref, cR, Tk.w, List.set_cons_zero] at h1 h2 h3 h4 h5 h6
    simp -implicitDefEqProofs [caS, bodyOf, loopsOf, hv, Try.f6, Ask.c, Cu.w, cW, hlt, w, h01, h1, h2, h3, h4, h5, h6]
  rw [if_neg h01] at f2 ⊢
  by_cases h02 : a.op = 2
  · rw [if_pos h02] at f2 ⊢
    refine (f1.and (f2.and ((name_c g hc).and (rName_c hc)))).imp fun k ⟨⟨h1, h2, h3⟩, h4, h5, h6⟩ N => ?_
    simp only [Cu.w, cW, Cu.ref, cR, Tk.w, List.set_cons_zero] at h1 h2 h3 h4 h5 h6
    simp -implicitDefEqProofs [caS, bodyOf, loopsOf, hv, Try.f6, Ask.c, Cu.w, cW, hlt, w, h02, h1, h2, h3, h4, h5, h6]
  rw [if_neg h02] at f2 ⊢
  by_cases h03 : a.op = 3
  · rw [if_pos h03] at f2 ⊢
    refine (f1.and (f2.and ((number_c g hc a.n).and (rNumber_c hc a.n)))).imp fun k ⟨⟨h1, h2, h3⟩, h4, h5, h6⟩ N => ?_
    simp only [Cu.w, cW, Cu.ref, cR, Tk.w, List.set_cons_zero] at h1 h2 h3 h4 h5 h6
    simp -implicitDefEqProofs [caS, bodyOf, loopsOf, hv, Try.f6, Ask.c, Cu.w, cW, hlt, w, h03, h1, h2, h3, h4, h5, h6]
  rw [if_neg h03] at f2 ⊢
  by_cases h04 : a.op = 4
  · rw [if_pos h04] at f2 ⊢
    refine (f1.and (f2.and ((is_c g hc a.kd a.tx).and (rIs_c (c := c) a.kd a.tx)))).imp fun k ⟨⟨h1, h2, h3⟩, h4, h5, h6⟩ N => ?_
    simp only [Cu.w, cW, Cu.ref, cR, Tk.w, List.set_cons_zero] at h1 h2 h3 h4 h5 h6
    simp -implicitDefEqProofs [caS, bodyOf, loopsOf, hv, Try.f6, Ask.c, Cu.w, cW, hlt, w, h04, h1, h2, h3, h4, h5, h6]
  rw [if_neg h04] at f2 ⊢
  refine (f1.and (f2.and ((fail_c g hc a.n).and (rFail_c (c := c) a.n)))).imp fun k ⟨⟨h1, h2, h3⟩, h4, h5, h6⟩ N => ?_
  simp only [Cu.w, cW, Cu.ref, cR, Tk.w, List.set_cons_zero] at h1 h2 h3 h4 h5 h6
  simp -implicitDefEqProofs [caS, bodyOf, loopsOf, hv, Try.f6, Ask.c, Cu.w, cW, hlt, w, h0, h01, h02, h03, h04, h1, h2, h3, h4, h5, h6]
end Go.Proofs.Ytkklkkppedociaa.Ev
