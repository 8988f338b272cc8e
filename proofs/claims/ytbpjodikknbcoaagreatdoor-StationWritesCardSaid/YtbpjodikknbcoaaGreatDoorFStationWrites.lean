/- What the law computes: printed by a program of this claim's author. -/
import Derived.Test.YtbpjodikknbcoaaGreatDoorFm4
set_option maxRecDepth 100000
set_option linter.unusedVariables false
set_option linter.unusedSimpArgs false
namespace Go.Proofs.YtbpjodikknbcoaaGreatDoor
open Go Go.Pv
end Go.Proofs.YtbpjodikknbcoaaGreatDoor
