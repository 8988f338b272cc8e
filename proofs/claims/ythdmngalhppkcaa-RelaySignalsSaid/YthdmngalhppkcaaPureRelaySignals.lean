/- RelaySignals: what is to be shown of the readings. -/
import Derived.Test.YthdmngalhppkcaaM3
set_option linter.unusedVariables false
set_option linter.unusedSimpArgs false
namespace Go.Proofs.Ythdmngalhppkcaa
open Go Go.Pv Classical

theorem ans_lens (b : Bx) (w : List Int) : (ans b w).length = w.length + 1 := by simp [ans]

theorem l8 (K : Nat) (t a : List Int) (h4 : t.length = 4) (ha : ∀ x ∈ a, 0 ≤ x ∧ x ≤ 3) (hl : a.length ≤ 100) (hK : a.length < K) : impll8_0 K K t a (a.map (sgf t)) 0 = some (.inl ((a.length : Int), ())) := by
  have h := upto (fun k (s : List Int × List Int × List Int × Int) => impll8_0 K k s.1 s.2.1 s.2.2.1 s.2.2.2) (fun j => (t, a, a.map (sgf t), (j : Int))) a.length
    (.inl ((a.length : Int), ())) (fun k j hj => by
      show impll8_0 K (k + 1) t a (a.map (sgf t)) j = impll8_0 K k t a (a.map (sgf t)) ((j + 1 : Nat) : Int)
      rw [impll8_0, implb8_0]
      have hx := ha _ (getD_mem (0 : Int) hj)
      have e : a.getD (j : Int).toNat 0 = a.getD j 0 := rfl
      have e2 : (a.map (sgf t)).getD (j : Int).toNat 0 = sgf t (a.getD j 0) := getD_map (0 : Int) 0 (sgf t) hj
      have c1 : (j : Int) < (a.length : Int) := by omega
      have c2 : 0 ≤ (j : Int) ∧ (j : Int) < (a.length : Int) := by omega
      have c3 : 0 ≤ (j : Int) ∧ (j : Int) < ((a.map (sgf t)).length : Int) := by simp; omega
      have c4 : ¬ a.getD j 0 < 0 := by omega
      have c5 : ¬ a.getD j 0 > 3 := by omega
      have c6 : 0 ≤ a.getD j 0 ∧ a.getD j 0 < (t.length : Int) := by omega
      simp only [cdec, ibne, cnot, e, e2, if_pos c1, if_pos c2, if_pos c3, if_neg c4, if_neg c5, if_pos c6]
      rw [if_pos (show sgf t (a.getD j 0) = t.getD (a.getD j 0).toNat 0 from rfl), wrapS (by omega)]) (fun k => by
      show impll8_0 K (k + 1) t a (a.map (sgf t)) a.length = _
      rw [impll8_0, implb8_0]
      simp only [cdec]
      rw [if_neg (by omega)]) K 0 (by omega) (by omega)
  exact h

theorem ans_in {b : Bx} (hv : V b) {w : List Int} (hw : wok w) : ∀ x ∈ ans b w, 0 ≤ x ∧ x ≤ 3 := by
  intro x hx
  obtain ⟨i, _, rfl⟩ := List.mem_map.1 hx
  exact ot_in hv (en_in hv (zero_in hv) (wok_take hw i))

theorem coreSignals (b : Bx) (t w : List Int) : implf8 300 b t w = some true := by
  unfold implf8
  have e : ((List.replicate 2 ([] : List Int)).set 0 t).set 1 w = [t, w] := rfl
  rw [e, f19 300 b [t, w] (by simp) (by simp)]
  simp only [obS, cdec]
  by_cases hl : lng b [t, w]
  · rw [if_pos hl, sane_ok]; rfl
  · have hw100 : w.length ≤ 100 := by
      rcases Nat.lt_or_ge 100 w.length with h | h
      · exact absurd (show lng b [t, w] from .inl ⟨w, by simp, h⟩) hl
      · exact h
    rw [if_neg hl, f37 300 (by omega), f38 300 (by omega)]
    simp only [obS]
    unfold sc
    by_cases hv : V b
    · obtain ⟨n1, n2, n3, n4⟩ := v_len hv
      simp only [if_pos hv]
      by_cases h4 : t.length = 4
      · simp only [if_pos h4]
        by_cases hs : sok t
        · simp only [if_pos hs]
          have hsl : (sg b t).2.length = b.2.length := by simp [sg]
          rw [f34 300 _ _ (by show b.1.length < 300; omega) (by show (sg b t).2.length < 300; omega) (by show b.1.length ≤ _; omega) (by show (sg b t).2.length ≤ _; omega)]
          rw [show (((sg b t).1, (sg b t).2) : Bx) = sg b t from rfl, f26 300 (by omega), f26 300 (by omega)]
          simp only [obS, decide_true, Bool.not_true, cond_false, ibne, ibeq, cnot, cdec, if_true]
          by_cases h : wc b w = 0
          · obtain ⟨_, hl40, hw⟩ := wc_zero h
            have hc : wc (sg b t) w = 0 := wc_of (v_sg hv h4 hs) hl40 hw
            simp only [if_pos h, if_pos hc, if_true]
            rw [ans_sg hv hw, if_pos (by simp), l8 300 t (ans b w) h4 (ans_in hv hw) (by rw [ans_lens]; omega) (by rw [ans_lens]; omega), sane_ok]
            rfl
          · simp only [if_neg h]
            rw [sane_ok]
            simp [obS, h]
        · simp only [if_neg hs]
          rw [f34 300 _ _ (by simp) (by simp) (by simp) (by simp), f26 300 (by omega), f26 300 (by omega), sane_ok]
          simp [obS]
      · simp only [if_neg h4]
        rw [f34 300 _ _ (by simp) (by simp) (by simp) (by simp), f26 300 (by omega), f26 300 (by omega), sane_ok]
        simp [obS]
    · simp only [if_neg hv]
      rw [f34 300 _ _ (by simp) (by simp) (by simp) (by simp), f26 300 (by omega), f26 300 (by omega), sane_ok]
      simp [obS]

theorem pureRelaySignals : ∀ x, wfAll tl [25, 23, 23] x → ∃ k, implf8 k x.1 x.2.1 x.2.2.1 = some true := fun x _ => ⟨300, coreSignals x.1 x.2.1 x.2.2.1⟩

end Go.Proofs.Ythdmngalhppkcaa
