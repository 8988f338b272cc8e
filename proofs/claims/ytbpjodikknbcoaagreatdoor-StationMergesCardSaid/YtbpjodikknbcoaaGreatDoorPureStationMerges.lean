/- What two books are together. -/
import Derived.Test.YtbpjodikknbcoaaGreatDoorMm1
import Derived.Test.YtbpjodikknbcoaaGreatDoorFStationMerges
set_option maxRecDepth 100000
set_option linter.unusedVariables false
set_option linter.unusedSimpArgs false
namespace Go.Proofs.YtbpjodikknbcoaaGreatDoor
open Go Go.Pv
theorem pureStationMerges (x : (insOf tl [9, 9]).ty.den) (hw : wfAll tl [9, 9] x) : ∃ k, implf11 k x.1 x.2.1 = some true := by
  refine ⟨KK, ?_⟩
  have hs := sane
  unfold implf11
  rw [cdec, hs]
  by_cases h1 : ((x.1 : ByteArray).size : Int) > 20000
  · rw [if_pos h1]; rfl
  · rw [if_neg h1, cdec]
    by_cases h2 : ((x.2.1 : ByteArray).size : Int) > 20000
    · rw [if_pos h2]; rfl
    · rw [if_neg h2]
      obtain ⟨y, e1, e2⟩ := merge_both x.1 x.2.1 (by omega) (by omega)
      rw [e1, e2]
      simp only [obS, beqB, beq_self_eq_true, decide_true, cond_true]
end Go.Proofs.YtbpjodikknbcoaaGreatDoor
