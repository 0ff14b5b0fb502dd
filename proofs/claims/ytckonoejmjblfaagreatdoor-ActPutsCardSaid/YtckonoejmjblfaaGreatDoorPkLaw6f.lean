/- Layer 6: the theorem of forms. -/
import Derived.Test.YtckonoejmjblfaaGreatDoorPkRnd
import Derived.Test.YtckonoejmjblfaaGreatDoorPkLaw
import Derived.Test.YtckonoejmjblfaaGreatDoorPkActA
set_option linter.unusedVariables false
set_option linter.unusedSimpArgs false
set_option maxRecDepth 100000
set_option maxHeartbeats 2000000
namespace Go.Proofs.YtckonoejmjblfaaGreatDoor.Ev
open Go Go.RowKit
end Go.Proofs.YtckonoejmjblfaaGreatDoor.Ev
