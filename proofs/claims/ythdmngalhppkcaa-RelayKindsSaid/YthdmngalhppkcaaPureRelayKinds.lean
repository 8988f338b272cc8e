/- RelayKinds: what is to be shown of the readings. -/
import Derived.Test.YthdmngalhppkcaaM13
set_option linter.unusedVariables false
set_option linter.unusedSimpArgs false
namespace Go.Proofs.Ythdmngalhppkcaa
open Go Go.Pv Classical

theorem coreKinds (b : Bx) : implf3 300 b = some true := by
  unfold implf3
  rw [f19 300 b [] (by simp) (by simp)]
  simp only [obS, cdec]
  by_cases hl : lng b []
  · rw [if_pos hl, sane_ok]; rfl
  · have := kc_len b
    rw [if_neg hl, f21, f22]
    simp only [obS]
    rw [f23 300 _ _ (by omega) (by omega), sane_ok]
    simp [obS]

theorem pureRelayKinds : ∀ x, wfAll tl [25] x → ∃ k, implf3 k x.1 = some true := fun x _ => ⟨300, coreKinds x.1⟩

end Go.Proofs.Ythdmngalhppkcaa
