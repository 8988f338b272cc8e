/- RelayRuns: what is to be shown of the readings. -/
import Derived.Test.YthdmngalhppkcaaM1
set_option linter.unusedVariables false
namespace Go.Proofs.Ythdmngalhppkcaa
open Go Go.Pv Classical

theorem ans_length (b : Bx) (w : List Int) : (ans b w).length = w.length + 1 := by simp [ans]

theorem coreRuns (b : Bx) (w : List Int) : implf5 300 b w = some true := by
  unfold implf5
  have e : (List.replicate 1 ([] : List Int)).set 0 w = [w] := rfl
  rw [e, f19 300 b [w] (by simp) (by simp)]
  simp only [obS, cdec]
  by_cases hl : lng b [w]
  · rw [if_pos hl, sane_ok]; rfl
  · rw [if_neg hl, f26 300 (by omega), f27 300 (by omega), f28 300 (by omega), f29 300 (by omega), f30 300 (by omega), f31 300 (by omega)]
    simp only [obS]
    by_cases h : wc b w = 0
    · have := (wc_zero h).2.1
      simp only [if_pos h]
      rw [f23 300 _ _ (by rw [ans_length]; omega) (by rw [ans_length]; omega), sane_ok]
      simp [obS]
    · simp only [if_neg h]
      rw [f23 300 _ _ (by simp) (by simp), sane_ok]
      simp [obS]

theorem pureRelayRuns : ∀ x, wfAll tl [25, 23] x → ∃ k, implf5 k x.1 x.2.1 = some true := fun x _ => ⟨300, coreRuns x.1 x.2.1⟩

end Go.Proofs.Ythdmngalhppkcaa
