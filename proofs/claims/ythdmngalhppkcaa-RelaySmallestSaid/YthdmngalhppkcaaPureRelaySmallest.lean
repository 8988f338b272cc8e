/- RelaySmallest: what is to be shown of the readings. -/
import Derived.Test.YthdmngalhppkcaaM17
set_option linter.unusedVariables false
set_option linter.unusedSimpArgs false
namespace Go.Proofs.Ythdmngalhppkcaa
open Go Go.Pv Classical

theorem coreSmallest (b : Bx) : implf15 300 b = some true := by
  unfold implf15
  rw [f19 300 b [] (by simp) (by simp)]
  simp only [obS, cdec]
  by_cases hl : lng b []
  · rw [if_pos hl, sane_ok]; rfl
  · obtain ⟨h1, h2⟩ := smc_len b
    rw [if_neg hl, f50, f51]
    simp only [obS]
    rw [f34 300 _ _ (by show (smc b).1.1.length < 300; omega) (by show (smc b).1.2.length < 300; omega) (by show (smc b).1.1.length ≤ 1000000; omega) (by show (smc b).1.2.length ≤ 1000000; omega)]
    simp only [obS, ibne, ibeq, cnot, cdec, if_true]
    by_cases hv : V b
    · have e : smc b = (sm b, 0) := by unfold smc; rw [if_pos hv]
      have hvs := v_sm hv
      have e2 : smc (sm b) = (sm b, 0) := by unfold smc; rw [if_pos hvs, sm_sm hv]
      obtain ⟨g1, g2⟩ := sm_len hv
      rw [e]
      have ee : ((sm b, (0 : Int)).1.1, (sm b, (0 : Int)).1.2) = sm b := rfl
      simp only [ee, if_true]
      rw [f52, f50, if_pos ⟨hvs, hv⟩, e2]
      simp only [obS, if_true]
      rw [sm_sm hv, decide_eq_true rfl]
      simp only [cond_true]
      rw [ee, f34 300 _ _ (by omega) (by omega) (by omega) (by omega)]
      simp only [obS, cdec, if_true]
      rw [sane_ok]; rfl
    · have e : smc b = (([], []), 1) := by unfold smc; rw [if_neg hv]
      rw [e]
      simp only []
      rw [if_neg (by omega), sane_ok]; rfl

theorem pureRelaySmallest : ∀ x, wfAll tl [25] x → ∃ k, implf15 k x.1 = some true := fun x _ => ⟨300, coreSmallest x.1⟩

end Go.Proofs.Ythdmngalhppkcaa
