/- StationRefuses: what the row's cells say of the program. -/
import Derived.Test.YtbpjodikknbcoaaGreatDoorRows
import Derived.JoinedOf
import Derived.KernelRfl
set_option maxRecDepth 100000
set_option linter.unusedVariables false
namespace Go.Proofs.YtbpjodikknbcoaaGreatDoor.stationRefuses
open Go
set_option maxHeartbeats 40000000 in
theorem closed : joinedFacts Tryz.pinned.checked.prog 10 Tryz.f10 Rows.stationRefusesSpec Rows.stationRefusesRow = true := by
  unfold joinedFacts
  simp only [Bool.and_eq_true]
  repeat (any_goals (apply And.intro))
  all_goals (as_aux_lemma => kernel_rfl)
end Go.Proofs.YtbpjodikknbcoaaGreatDoor.stationRefuses
