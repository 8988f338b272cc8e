/- The normal form is among all. -/
import Derived.Test.YtdgibokmaannjaaM12
set_option linter.unusedVariables false
set_option linter.unusedSimpArgs false
namespace Go.Proofs.Ytdgibokmaannjaa
open Go Go.Pv Classical

theorem V.zer {c : List Int} (h : V c) : V (zer c) := by
  have hp := h.pos
  have h2 := h.2.2
  refine ⟨by rw [zer_len]; exact h.1, fun i _ hi => ?_, ?_⟩
  · rw [zer_len] at hi
    have b1 := h.lo (getD_mem 0 hi)
    refine ⟨by rw [zer_get hi]; omega, fun h0 => ?_⟩
    rw [zer_get hi, zer_get (show i - 1 < c.length by omega)]
    have := (h.2.1 i (Nat.zero_le _) hi).2 h0
    omega
  · rw [zer_len, zer_get hp, zer_get (show c.length - 1 < c.length by omega)]
    omega
theorem nrm_zer {c : List Int} (hp : 0 < c.length) : nrm (zer c) = nrm c := nrm_sh hp
theorem D_zer {c : List Int} (h : V c) : D (zer c) = D c := D_sh _ h.inc
theorem cmpGoL_mem : ∀ (l : List (List Int)) (p x : List Int), x ∈ l → x = p ∨ x ∈ cmpGoL p l
  | y :: r, p, x, h => by
    rw [cmpGoL]
    by_cases e : y = p
    · subst e
      rw [if_pos rfl]
      rcases List.mem_cons.1 h with rfl | h
      · exact .inl rfl
      · exact cmpGoL_mem r y x h
    · rw [if_neg e]
      rcases List.mem_cons.1 h with rfl | h
      · exact .inr (by simp)
      · rcases cmpGoL_mem r y x h with rfl | h
        · exact .inr (by simp)
        · exact .inr (by simp [h])
theorem compactL_mem {l : List (List Int)} {x : List Int} (h : x ∈ l) : x ∈ compactL l := by
  cases l with
  | nil => cases h
  | cons p r =>
    rw [compactL]
    rcases List.mem_cons.1 h with rfl | h
    · simp
    · rcases cmpGoL_mem r p x h with rfl | h
      · simp
      · simp [h]
theorem cmpGoL_sub : ∀ (l : List (List Int)) (p : List Int), (cmpGoL p l).Sublist l
  | [], p => List.Sublist.refl _
  | y :: r, p => by
    rw [cmpGoL]
    by_cases e : y = p
    · rw [if_pos e]; exact (cmpGoL_sub r p).trans (List.sublist_cons_self _ _)
    · rw [if_neg e]; exact (cmpGoL_sub r y).cons_cons y
theorem compactL_sub (l : List (List Int)) : (compactL l).Sublist l := by
  cases l with
  | nil => exact List.Sublist.refl _
  | cons p r => rw [compactL]; exact (cmpGoL_sub r p).cons_cons p
end Go.Proofs.Ytdgibokmaannjaa
