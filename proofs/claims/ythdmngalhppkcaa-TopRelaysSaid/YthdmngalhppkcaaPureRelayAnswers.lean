/- RelayAnswers: what is to be shown of the readings. -/
import Derived.Test.YthdmngalhppkcaaM10
set_option linter.unusedVariables false
set_option linter.unusedSimpArgs false
namespace Go.Proofs.Ythdmngalhppkcaa
open Go Go.Pv Classical

/-- Where answers differ, a part of the word tells the boxes apart. -/
theorem ans_ne {A B : Bx} {w : List Int} (h : ans A w ≠ ans B w) : ∃ i, i ≤ w.length ∧ ot A (en A 0 (w.take i)) ≠ ot B (en B 0 (w.take i)) := by
  apply Classical.byContradiction
  intro hno
  refine h (List.map_congr_left fun i hi => Classical.byContradiction fun hne => hno ⟨i, ?_, hne⟩)
  have := List.mem_range.1 hi
  omega

theorem coreAnswers (A B : Bx) (w : List Int) : implf12 300 A B w = some true := by
  unfold implf12
  have e0 : ((List.replicate 1 ([] : List Int)).set 0 w) = [w] := rfl
  rw [e0, f19 300 A [w] (by simp) (by simp), f19 300 B [] (by simp) (by simp)]
  simp only [obS, cdec]
  by_cases hl : lng A [w]
  · rw [if_pos hl, sane_ok]; rfl
  · rw [if_neg hl]
    by_cases hl2 : lng B []
    · rw [if_pos hl2, sane_ok]; rfl
    · rw [if_neg hl2, f44, f26 300 (by omega), f26 300 (by omega)]
      simp only [obS, ibne, ibeq, cnot, cdec]
      by_cases ha : wc A w = 0
      · simp only [if_pos ha]
        rw [if_pos trivial]
        by_cases hb : wc B w = 0
        · simp only [if_pos hb]
          rw [if_pos trivial]
          obtain ⟨hA, hwl, hwo⟩ := wc_zero ha
          obtain ⟨hB, _, _⟩ := wc_zero hb
          have et : tells A B = ((tell A B 0 0).1, (tell A B 0 0).2, 0) := by unfold tells; rw [if_pos ⟨hA, hB⟩]
          rw [et]
          simp only [if_true]
          rw [f23 300 _ _ (by simp [ans]; omega) (by simp [ans]; omega)]
          simp only [obS, cdec]
          by_cases he : ans A w = ans B w
          · rw [if_pos he, sane_ok]; rfl
          · rw [if_neg he]
            obtain ⟨i, hi, hne⟩ := ans_ne he
            cases h2 : (tell A B 0 0).2 with
            | false => exact absurd ((tell_false hA hB (zero_in hA) (zero_in hB) h2).2 _ (wok_take hwo i)) hne
            | true =>
              obtain ⟨_, _, t3⟩ := tell_true hA hB (zero_in hA) (zero_in hB) h2
              have := t3 _ (wok_take hwo i) hne
              have hlt : (w.take i).length ≤ w.length := by simp; omega
              simp only [cond_true]
              rw [if_pos (by omega), sane_ok]; rfl
        · simp only [if_neg hb]
          rw [sane_ok]; rfl
      · simp only [if_neg ha]
        rw [sane_ok]; rfl

end Go.Proofs.Ythdmngalhppkcaa
