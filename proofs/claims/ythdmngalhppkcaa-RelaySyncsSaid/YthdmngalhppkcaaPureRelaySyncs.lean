/- RelaySyncs: what is to be shown of the readings. -/
import Derived.Test.YthdmngalhppkcaaM15
set_option linter.unusedVariables false
set_option linter.unusedSimpArgs false
namespace Go.Proofs.Ythdmngalhppkcaa
open Go Go.Pv Classical

theorem l13 (K : Nat) (hK : 50 ≤ K) {b : Bx} (hv : V b) {w : List Int} (hw : wok w) (hl : w.length ≤ 40) {p : Int} (hp0 : 0 ≤ p) (hp : ∀ j : Nat, j < b.1.length → en b j w = p) :
    ∀ (k j : Nat) (a : Int), b.1.length - j < k → j ≤ b.1.length → (a = -1 ∨ a = p) → ∃ r, impll13_0 K k b w a j = some (.inl r)
  | 0, j, a, hk, hj, ha => by omega
  | k + 1, j, a, hk, hj, ha => by
    rw [impll13_0, implb13_0]
    have h22 := hv.2.2.1
    have h6 := hv.2.1
    simp only [cdec]
    by_cases hlt : j < b.1.length
    · have hin : inB b j := ⟨by omega, by omega⟩
      have hin2 : 0 ≤ (j : Int) ∧ (j : Int) ≤ (b.1.length : Int) - 1 := by omega
      have hfr : fr b j = (rn b (sw b.1.length j), 0) := by unfold fr; rw [if_pos hv, if_pos hin2]
      have hv2 := v_sw hv hin
      have hen := en_rn hv (sw_num hin) (sw_inj hin) hin hw
      have h0 := sw_tt hin hin
      rw [if_pos rfl] at h0
      rw [h0, hp j hlt] at hen
      have hpin : 0 ≤ p ∧ p < (b.1.length : Int) := by
        have := en_in hv hin hw
        rw [hp j hlt] at this; exact this
      rw [sw_tt hin hpin] at hen
      rw [if_pos (by omega), f39 K (by omega), hfr, obS]
      have e2 : ((rn b (sw b.1.length j), (0 : Int)).1.1, (rn b (sw b.1.length j), (0 : Int)).1.2) = rn b (sw b.1.length j) := rfl
      rw [e2, f28 K hK, wc_of hv2 hl hw, if_pos rfl, obS, hen]
      simp only [ibne, ibeq, cnot, cdec, if_true, decide_true]
      rw [wrapS (by omega)]
      have ih := fun a ha => l13 K hK hv hw hl hp0 hp k (j + 1) a (by omega) (by omega) ha
      by_cases q : p = (j : Int)
      · rw [if_pos q]
        simp only [if_true]
        by_cases hp2 : a ≥ 0
        · rw [if_pos hp2, if_pos (by omega)]; exact ih _ (.inr q.symm)
        · rw [if_neg hp2]; exact ih _ (.inr q.symm)
      · rw [if_neg q]
        by_cases q0 : p = 0
        · rw [if_pos q0, if_neg (by omega), if_pos rfl]
          by_cases hp2 : a ≥ 0
          · rw [if_pos hp2, if_pos (by omega)]; exact ih _ (.inr q0.symm)
          · rw [if_neg hp2]; exact ih _ (.inr q0.symm)
        · rw [if_neg q0, if_neg q0, if_neg q]
          by_cases hp2 : a ≥ 0
          · rw [if_pos hp2, if_pos (by omega)]; exact ih _ (.inr rfl)
          · rw [if_neg hp2]; exact ih _ (.inr rfl)
    · rw [if_neg (by omega)]
      exact ⟨_, rfl⟩

theorem coreSyncs (b : Bx) : implf13 300 b = some true := by
  unfold implf13
  rw [f19 300 b [] (by simp) (by simp)]
  simp only [obS, cdec]
  by_cases hl : lng b []
  · rw [if_pos hl, sane_ok]; rfl
  · rw [if_neg hl, f46, f47]
    have hsl := syncs_len b
    simp only [obS]
    rw [f23 300 _ _ (by omega) (by omega)]
    simp only [obS, decide_true, Bool.not_true, cond_false]
    have hb : (!((syncs b).2.1 == (syncs b).2.1)) = false := by cases (syncs b).2.1 <;> rfl
    rw [hb]
    simp only [cond_false, ibne, ibeq, cnot, cdec, if_true, decide_true, cond_true]
    cases h2 : (syncs b).2.1 with
    | false => rw [sane_ok]; rfl
    | true =>
      have hv : V b := by
        apply Classical.byContradiction
        intro hv
        unfold syncs at h2
        rw [if_neg hv] at h2
        cases h2
      have et : syncs b = ((sync b).1, (sync b).2, 0) := by unfold syncs; rw [if_pos hv]
      rw [et] at h2
      obtain ⟨t1, t2⟩ := sync_true hv h2
      rw [et]
      simp only [cond_true]
      by_cases h40 : ((sync b).1.length : Int) > 40
      · rw [if_pos h40, sane_ok]; rfl
      · rw [if_neg h40]
        have hz := (en_in hv (zero_in hv) t1).1
        have h6 := hv.2.1
        obtain ⟨r, hr⟩ := l13 300 (by omega) hv t1 (by omega) hz (fun j hj => ms_goal hv t1 t2 (i := j) (j := 0) hj hv.1) 300 0 (-1) (by omega) (by omega) (.inl rfl)
        have hr' : impll13_0 300 300 b (sync b).1 (-1) 0 = some (.inl r) := hr
        rw [hr', sane_ok]; rfl

theorem pureRelaySyncs : ∀ x, wfAll tl [25] x → ∃ k, implf13 k x.1 = some true := fun x _ => ⟨300, coreSyncs x.1⟩

end Go.Proofs.Ythdmngalhppkcaa
