/- The orders and the rest of any text, and its sum. -/
import Derived.Test.YtbpjodikknbcoaaGreatDoorMm1
import Derived.Test.YtbpjodikknbcoaaGreatDoorFStationReads
set_option maxRecDepth 100000
set_option linter.unusedVariables false
set_option linter.unusedSimpArgs false
namespace Go.Proofs.YtbpjodikknbcoaaGreatDoor
open Go Go.Pv
theorem coreStationReads (t : ByteArray) (b : Int) : implf8 KK t b = some true := by
  have hs := sane
  unfold implf8
  rw [cdec, hs]
  by_cases h1 : (t.size : Int) > 20000
  · rw [if_pos h1]; rfl
  · rw [if_neg h1]
    obtain ⟨y, e1, e2, h2⟩ := read_both t (by omega)
    rw [e1, e2]
    simp only [obS]
    rw [same45 _ _ (by omega), sum46 _ _ (by omega), sum47 _ _ (by omega)]
    simp only [obS, beqB, beq_self_eq_true, decide_true, cond_true]
theorem pureStationReads (x : (insOf tl [9, 3]).ty.den) (hw : wfAll tl [9, 3] x) : ∃ k, implf8 k x.1 x.2.1 = some true := ⟨KK, coreStationReads x.1 x.2.1⟩
end Go.Proofs.YtbpjodikknbcoaaGreatDoor
