/- RelayTurns: what is to be shown of the readings. -/
import Derived.Test.YthdmngalhppkcaaM2
set_option linter.unusedVariables false
set_option linter.unusedSimpArgs false
namespace Go.Proofs.Ythdmngalhppkcaa
open Go Go.Pv Classical

theorem ans_len (b : Bx) (w : List Int) : (ans b w).length = w.length + 1 := by simp [ans]
theorem tn_len (b : Bx) : (tn b).1.length = b.1.length ∧ (tn b).2.length = b.2.length := by simp [tn]

theorem l6 (K : Nat) (c : Bx) (y : List Int) {w : List Int} (hw : wok w) (hl : w.length ≤ 100) (hK : w.length < K) : impll6_0 K K w c y [] 0 = some (c, flip1 w, (w.length : Int), ()) := by
  have h := upto (fun k (s : List Int × Bx × List Int × List Int × Int) => impll6_0 K k s.1 s.2.1 s.2.2.1 s.2.2.2.1 s.2.2.2.2) (fun j => (w, c, y, (w.take j).map (fun x => 1 - x), (j : Int))) w.length
    (c, flip1 w, (w.length : Int), ()) (fun k j hj => by
      show impll6_0 K (k + 1) w c y ((w.take j).map (fun x => 1 - x)) j = impll6_0 K k w c y ((w.take (j + 1)).map (fun x => 1 - x)) ((j + 1 : Nat) : Int)
      rw [impll6_0, implb6_0]
      simp only [cdec]
      have hx := wok_get hw hj
      have e : IntKind.i64.wrap ((1 : Int) - w.getD (j : Int).toNat 0) = 1 - w.getD j 0 := wrapI (by show _ ≤ 1 - w.getD j 0; omega) (by show 1 - w.getD j 0 ≤ _; omega)
      rw [if_pos (by omega), if_pos (by omega), if_pos (by simp; omega), wrapS (by omega), ← map_snoc (0 : Int) (fun x => 1 - x) hj, e]
      rfl) (fun k => by
      show impll6_0 K (k + 1) w c y ((w.take w.length).map (fun x => 1 - x)) w.length = _
      rw [impll6_0, implb6_0]
      simp only [cdec]
      rw [if_neg (by omega), List.take_of_length_le (Nat.le_refl _)]
      rfl) K 0 (by omega) (by omega)
  exact h

theorem coreTurns (b : Bx) (w : List Int) : implf6 300 b w = some true := by
  unfold implf6
  have e : (List.replicate 1 ([] : List Int)).set 0 w = [w] := rfl
  rw [e, f19 300 b [w] (by simp) (by simp)]
  simp only [obS, cdec]
  by_cases hl : lng b [w]
  · rw [if_pos hl, sane_ok]; rfl
  · have hw100 : w.length ≤ 100 := by
      rcases Nat.lt_or_ge 100 w.length with h | h
      · exact absurd (show lng b [w] from .inl ⟨w, by simp, h⟩) hl
      · exact h
    rw [if_neg hl, f32 300 (by omega), f33 300 (by omega)]
    simp only [obS]
    unfold vd
    by_cases hv : V b
    · obtain ⟨n1, n2, n3, n4⟩ := v_len hv
      obtain ⟨t1, t2⟩ := tn_len b
      simp only [if_pos hv]
      rw [f34 300 _ _ (by show (tn b).1.length < 300; omega) (by show (tn b).2.length < 300; omega) (by show (tn b).1.length ≤ _; omega) (by show (tn b).2.length ≤ _; omega), f26 300 (by omega)]
      simp only [obS, decide_true, Bool.not_true, cond_false, ibne, cnot, cdec, if_true]
      by_cases h : wc b w = 0
      · obtain ⟨_, hl40, hw⟩ := wc_zero h
        simp only [if_pos h, if_true]
        rw [l6 300 _ _ hw hw100 (by omega)]
        simp only [obS]
        have hc : wc (tn b) (flip1 w) = 0 := wc_of (v_tn hv) (by simp [flip1]; omega) (wok_flip hw)
        rw [show (((tn b).1, (tn b).2) : Bx) = tn b from rfl, f26 300 (by omega), if_pos hc]
        simp only [obS, ans_tn hv hw]
        rw [f23 300 _ _ (by rw [ans_len]; omega) (by rw [ans_len]; omega), sane_ok]
        simp [obS]
      · simp only [if_neg h]
        rw [sane_ok]
        simp [obS, h]
    · simp only [if_neg hv]
      rw [f34 300 _ _ (by simp) (by simp) (by simp) (by simp), f26 300 (by omega), sane_ok]
      simp [obS]

theorem pureRelayTurns : ∀ x, wfAll tl [25, 23] x → ∃ k, implf6 k x.1 x.2.1 = some true := fun x _ => ⟨300, coreTurns x.1 x.2.1⟩

end Go.Proofs.Ythdmngalhppkcaa
