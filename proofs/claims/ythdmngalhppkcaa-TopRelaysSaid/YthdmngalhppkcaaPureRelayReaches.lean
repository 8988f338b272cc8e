/- RelayReaches: what is to be shown of the readings. -/
import Derived.Test.YthdmngalhppkcaaM20
set_option linter.unusedVariables false
set_option linter.unusedSimpArgs false
namespace Go.Proofs.Ythdmngalhppkcaa
open Go Go.Pv Classical

theorem rchC_len (b : Bx) : (rchC b).1.length ≤ 6 := by
  unfold rchC
  by_cases hv : V b
  · rw [if_pos hv]
    show (rch b).length ≤ 6
    unfold rch
    rw [(isort_perm (le := leI) _).length_eq, List.length_map]
    exact (wds_spec hv).2
  · rw [if_neg hv]; exact Nat.zero_le _
theorem wds_len {b : Bx} (hv : V b) {w : List Int} (hw : w ∈ wds b) : w.length ≤ 6 := by
  obtain ⟨hB, h6⟩ := wds_spec hv
  obtain ⟨i, hi, rfl⟩ := List.mem_iff_getElem.1 hw
  have := hB.lb i hi
  rw [getD_lt [] hi] at this
  omega
theorem tow_spec (b : Bx) (s : Int) : (tow b s).1.length ≤ 6 ∧ ((tow b s).2.1 = true → V b ∧ wok (tow b s).1 ∧ en b 0 (tow b s).1 = s) := by
  unfold tow
  by_cases hv : V b
  · rw [if_pos hv]
    by_cases hs : 0 ≤ s ∧ s ≤ (b.1.length : Int) - 1
    · rw [if_pos hs]
      obtain ⟨h1, h2⟩ := find_to hv s
      cases hb : bfs (nd1 b) (fun p => p = s) 300 0 [[]] with
      | some w =>
        obtain ⟨g1, g2, -⟩ := h1 w hb
        exact ⟨wds_len hv g1, fun _ => ⟨hv, (wds_spec hv).1.wk w g1, g2⟩⟩
      | none => exact ⟨Nat.zero_le _, fun h => by cases h⟩
    · rw [if_neg hs]; exact ⟨Nat.zero_le _, fun h => by cases h⟩
  · rw [if_neg hv]; exact ⟨Nat.zero_le _, fun h => by cases h⟩
theorem coreReaches (b : Bx) (s : Int) : implf17 300 b s = some true := by
  unfold implf17
  rw [f19 300 b [] (by simp) (by simp), obS]
  by_cases hl : lng b []
  · rw [decide_eq_true hl, sane_ok]; rfl
  · have l1 := rchC_len b
    obtain ⟨l2, h2⟩ := tow_spec b s
    rw [decide_eq_false hl, f54, f55, f56, f57, cond_false, obS, obS, obS, obS, f23 300 _ _ (by omega) (by omega), obS, decide_eq_true rfl, f23 300 _ _ (by omega) (by omega)]
    simp only [obS, decide_true, Bool.not_true, cond_false, bne_self_eq_false, beq_self_eq_true]
    cases ht : (tow b s).2.1 with
    | false =>
      rw [sane_ok]; rfl
    | true =>
      obtain ⟨hv, hw, he⟩ := h2 ht
      have hc : wc b (tow b s).1 = 0 := by
        unfold wc
        rw [if_pos hv, if_neg (by omega), if_pos hw]
      rw [f28 300 (by omega), hc, if_pos rfl, he]
      simp only [obS, Bool.not_true, cond_false, beq_self_eq_true, cond_true, sane_ok]
theorem pureRelayReaches : ∀ x, wfAll tl [25, 3] x → ∃ k, implf17 k x.1 x.2.1 = some true := fun x _ => ⟨300, coreReaches x.1 x.2.1⟩
end Go.Proofs.Ythdmngalhppkcaa
