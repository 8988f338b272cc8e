/- RelayLates: what is to be shown of the readings. -/
import Derived.Test.YthdmngalhppkcaaM2
set_option linter.unusedVariables false
set_option linter.unusedSimpArgs false
namespace Go.Proofs.Ythdmngalhppkcaa
open Go Go.Pv Classical

theorem ans_leng (b : Bx) (w : List Int) : (ans b w).length = w.length + 1 := by simp [ans]
theorem lt_len (b : Bx) : (lt b).1.length = b.1.length + 1 ∧ (lt b).2.length = b.2.length + 1 := by simp [lt]

theorem coreLates (b : Bx) (w : List Int) : implf7 300 b w = some true := by
  unfold implf7
  have e : (List.replicate 1 ([] : List Int)).set 0 w = [w] := rfl
  rw [e, f19 300 b [w] (by simp) (by simp)]
  simp only [obS, cdec]
  by_cases hl : lng b [w]
  · rw [if_pos hl, sane_ok]; rfl
  · rw [if_neg hl, f35 300 (by omega), f36 300 (by omega)]
    simp only [obS]
    unfold lc
    by_cases hv : V b
    · obtain ⟨n1, n2, n3, n4⟩ := v_len hv
      obtain ⟨t1, t2⟩ := lt_len b
      simp only [if_pos hv]
      by_cases h6 : b.1.length = 6
      · simp only [if_pos h6]
        rw [f34 300 _ _ (by simp) (by simp) (by simp) (by simp), f26 300 (by omega), sane_ok]
        simp [obS]
      · simp only [if_neg h6]
        rw [f34 300 _ _ (by show (lt b).1.length < 300; omega) (by show (lt b).2.length < 300; omega) (by show (lt b).1.length ≤ _; omega) (by show (lt b).2.length ≤ _; omega)]
        rw [show (((lt b).1, (lt b).2) : Bx) = lt b from rfl, f26 300 (by omega)]
        simp only [obS, decide_true, Bool.not_true, cond_false, ibne, ibeq, cnot, cdec, if_true]
        by_cases h : wc (lt b) w = 0
        · obtain ⟨_, hl40, hw⟩ := wc_zero h
          simp only [if_pos h, if_true]
          cases w with
          | nil => rw [if_pos (by simp), sane_ok]; rfl
          | cons x w =>
            have hw' : wok w := fun y hy => hw y (by simp [hy])
            have hc : wc b w = 0 := wc_of hv (by simp at hl40; omega) hw'
            have hd : List.drop 1 (x :: w) = w := rfl
            simp only [List.length_cons] at hl40
            rw [if_neg (by simp only [List.length_cons]; omega), if_pos (by simp only [List.length_cons]; omega), hd, f26 300 (by omega), if_pos hc]
            simp only [obS, ans_lt hv hw, List.length_cons, ans_leng, if_true]
            rw [wrapS (by omega), if_pos (by omega), if_pos (by omega)]
            have hg : (0 :: ans b w).getD 0 0 = 0 := rfl
            have hd2 : List.drop 1 (0 :: ans b w) = ans b w := rfl
            rw [hg, if_pos rfl, if_pos (by omega), hd2, f23 300 _ _ (by rw [ans_leng]; omega) (by rw [ans_leng]; omega), sane_ok]
            simp [obS]
        · simp only [if_neg h]
          rw [sane_ok]
          simp [obS, h]
    · simp only [if_neg hv]
      rw [f34 300 _ _ (by simp) (by simp) (by simp) (by simp), f26 300 (by omega), sane_ok]
      simp [obS]

theorem pureRelayLates : ∀ x, wfAll tl [25, 23] x → ∃ k, implf7 k x.1 x.2.1 = some true := fun x _ => ⟨300, coreLates x.1 x.2.1⟩

end Go.Proofs.Ythdmngalhppkcaa
