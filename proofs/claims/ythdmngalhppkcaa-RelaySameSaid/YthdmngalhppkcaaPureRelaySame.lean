/- RelaySame: what is to be shown of the readings. -/
import Derived.Test.YthdmngalhppkcaaM17
set_option linter.unusedVariables false
set_option linter.unusedSimpArgs false
namespace Go.Proofs.Ythdmngalhppkcaa
open Go Go.Pv Classical

theorem coreSame (A B : Bx) : implf16 300 A B = some true := by
  unfold implf16
  rw [f19 300 A [] (by simp) (by simp), f19 300 B [] (by simp) (by simp)]
  simp only [obS, cdec]
  by_cases hl : lng A []
  · rw [if_pos hl, sane_ok]; rfl
  · rw [if_neg hl]
    by_cases hl2 : lng B []
    · rw [if_pos hl2, sane_ok]; rfl
    · rw [if_neg hl2, f52, f53]
      simp only [obS]
      by_cases hv : V A ∧ V B
      · rw [if_pos hv]
        have eA : smc A = (sm A, 0) := by unfold smc; rw [if_pos hv.1]
        have eB : smc B = (sm B, 0) := by unfold smc; rw [if_pos hv.2]
        obtain ⟨g1, g2⟩ := sm_len hv.1
        have hb : (!(decide (sm A = sm B) == decide (sm A = sm B))) = false := by cases decide (sm A = sm B) <;> rfl
        simp only [hb, cond_false, ibne, ibeq, cnot, cdec, if_true]
        rw [f50, f50, eA, eB]
        simp only [obS, if_true]
        have ee : ∀ c : Bx, ((c, (0 : Int)).1.1, (c, (0 : Int)).1.2) = c := fun _ => rfl
        rw [f34 300 _ _ (by show (sm A).1.length < 300; omega) (by show (sm A).2.length < 300; omega) (by show (sm A).1.length ≤ 1000000; omega) (by show (sm A).2.length ≤ 1000000; omega)]
        simp only [obS, sane_ok]
        by_cases e : sm A = sm B
        · simp [e]
        · simp [e]
      · rw [if_neg hv]
        simp only [ibne, cnot, cdec, if_true, Bool.not_false, beq_self_eq_true, Bool.not_true, cond_false]
        rw [if_neg (by omega), sane_ok]; rfl

theorem pureRelaySame : ∀ x, wfAll tl [25, 25] x → ∃ k, implf16 k x.1 x.2.1 = some true := fun x _ => ⟨300, coreSame x.1 x.2.1⟩

end Go.Proofs.Ythdmngalhppkcaa
