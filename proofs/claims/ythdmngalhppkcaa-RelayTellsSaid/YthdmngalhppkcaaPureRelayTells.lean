/- RelayTells: what is to be shown of the readings. -/
import Derived.Test.YthdmngalhppkcaaM10
set_option linter.unusedVariables false
set_option linter.unusedSimpArgs false
namespace Go.Proofs.Ythdmngalhppkcaa
open Go Go.Pv Classical

theorem coreTells (A B : Bx) : implf11 300 A B = some true := by
  unfold implf11
  rw [f19 300 A [] (by simp) (by simp), f19 300 B [] (by simp) (by simp)]
  simp only [obS, cdec]
  by_cases hl : lng A []
  · rw [if_pos hl, sane_ok]; rfl
  · rw [if_neg hl]
    by_cases hl2 : lng B []
    · rw [if_pos hl2, sane_ok]; rfl
    · rw [if_neg hl2, f44, f45]
      have hsh := tells_short A B
      simp only [obS]
      rw [f23 300 _ _ (by omega) (by omega)]
      simp only [obS, decide_true, Bool.not_true, cond_false]
      have hb : (!((tells A B).2.1 == (tells A B).2.1)) = false := by cases (tells A B).2.1 <;> rfl
      rw [hb]
      simp only [cond_false, ibne, ibeq, cnot, cdec, if_true, decide_true, cond_true]
      cases h2 : (tells A B).2.1 with
      | false => rw [sane_ok]; rfl
      | true =>
        have hv : V A ∧ V B := by
          apply Classical.byContradiction
          intro hv
          unfold tells at h2
          rw [if_neg hv] at h2
          cases h2
        have et : tells A B = ((tell A B 0 0).1, (tell A B 0 0).2, 0) := by unfold tells; rw [if_pos hv]
        have h2 : (tell A B 0 0).2 = true := by rw [et] at h2; exact h2
        obtain ⟨t1, t2, t3⟩ := tell_true hv.1 hv.2 (zero_in hv.1) (zero_in hv.2) h2
        have hs := tell_short hv.1 hv.2 (zero_in hv.1) (zero_in hv.2)
        have ha6 := hv.1.2.1
        have hb6 := hv.2.2.1
        have ea := hv.1.2.2.1
        have eb := hv.2.2.2.1
        rw [et]
        simp only [f26 300 (by omega : 50 ≤ 300), obS, cond_true, wc_of hv.1 (show (tell A B 0 0).1.length ≤ 40 by omega) t1, wc_of hv.2 (show (tell A B 0 0).1.length ≤ 40 by omega) t1, if_true]
        rw [f23 300 _ _ (by simp [ans]; omega) (by simp [ans]; omega)]
        have hne : ans A (tell A B 0 0).1 ≠ ans B (tell A B 0 0).1 := fun e => t2 (by
          have h1 := ans_last A (tell A B 0 0).1
          have h2 := ans_last B (tell A B 0 0).1
          rw [← h1, ← h2, e])
        have w1 : IntKind.i64.wrap ((A.2.length : Int) + (B.2.length : Int)) = (A.2.length : Int) + (B.2.length : Int) := wrapI (by omega) (by omega)
        simp only [obS, hne, decide_false, cond_false, Bool.not_false, cond_true, w1]
        rw [if_pos (by omega), sane_ok]; rfl

theorem pureRelayTells : ∀ x, wfAll tl [25, 25] x → ∃ k, implf11 k x.1 x.2.1 = some true := fun x _ => ⟨300, coreTells x.1 x.2.1⟩

end Go.Proofs.Ythdmngalhppkcaa
