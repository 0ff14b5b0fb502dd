/- Layer 6: an expression of the last level, as the document reads it. -/
import Derived.Test.YtkklkkppedociaaDoorPkExpA
import Derived.Test.YtkklkkppedociaaDoorPkTrmC
set_option linter.unusedVariables false
set_option linter.unusedSimpArgs false
set_option maxRecDepth 100000
set_option maxHeartbeats 4000000
namespace Go.Proofs.YtkklkkppedociaaDoor.Ev
open Go Go.RowKit

/-- What the document's reader answers. -/
def resR (x : Cu × List Tm) : V := .tup [x.1.ref, L (x.2.map Tm.c)]
section
end
end Go.Proofs.YtkklkkppedociaaDoor.Ev

/- Layer 6: a level's expressions, as the document reads them: what stands between. -/
set_option linter.unusedVariables false
set_option linter.unusedSimpArgs false
set_option maxRecDepth 100000
set_option maxHeartbeats 4000000
namespace Go.Proofs.YtkklkkppedociaaDoor.Ev
open Go Go.RowKit

def Cu.cells (c : Cu) : List W := [.d (.sl (c.r.map Tk.c)), .d (.int .i64 (was c.p).ln), .d (.int .i64 (was c.p).cl), .d (.int .i64 c.ln), .d (.int .i64 c.cl), .d (.int .i64 c.e)]
abbrev zeroCu : List W := [.full [], .d (.int .i64 0), .d (.int .i64 0), .d (.int .i64 0), .d (.int .i64 0), .d (.int .i64 0)]
def rlS (k : Nat) (c : Cu) (l : List Tm) (more : Bool) (gl : List (List W)) (ro : Nat) : St :=
  st 114 [(1, V.int .i64 k), (2, .c (.w (.box 2 0))), (4, .c (.w (.box 4 0))), (10, .c (L (l.map Tm.c))), (11, .c (L ((signsB k).map sD))), (12, .c (L ((opsI k).map zD))), (13, V.bool more)] [(2, c.cells), (4, zeroCu)] [] gl ro
abbrev rlK : List Nat := [1, 2, 4, 10, 11, 12, 13]
section
end
end Go.Proofs.YtkklkkppedociaaDoor.Ev

/- Layer 6: a level's expressions, as the document reads them. -/
set_option linter.unusedVariables false
set_option linter.unusedSimpArgs false
set_option maxRecDepth 100000
set_option maxHeartbeats 4000000
namespace Go.Proofs.YtkklkkppedociaaDoor.Ev
open Go Go.RowKit

section
end
end Go.Proofs.YtkklkkppedociaaDoor.Ev
