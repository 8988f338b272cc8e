/- The book of orders, read again. -/
import Derived.Test.YtbpjodikknbcoaaGreatDoorMm1
import Derived.Test.YtbpjodikknbcoaaGreatDoorFStationWrites
set_option maxRecDepth 100000
set_option linter.unusedVariables false
set_option linter.unusedSimpArgs false
namespace Go.Proofs.YtbpjodikknbcoaaGreatDoor
open Go Go.Pv
theorem pureStationWrites (x : (insOf tl [26, 3]).ty.den) (hw : wfAll tl [26, 3] x) : ∃ k, implf9 k x.1 x.2.1 = some true := coreStationWrites x.1 x.2.1 hw.1.1
end Go.Proofs.YtbpjodikknbcoaaGreatDoor
