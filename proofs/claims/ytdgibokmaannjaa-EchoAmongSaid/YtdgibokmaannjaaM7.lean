/- Scaled cliffs; the sums and the differences of two rows. -/
import Derived.Test.YtdgibokmaannjaaM6
set_option linter.unusedVariables false
set_option linter.unusedSimpArgs false
namespace Go.Proofs.Ytdgibokmaannjaa
open Go Go.Pv Classical

/-! ### Scaled -/
def nz (c : List Int) : Prop := ∃ y ∈ c, y ≠ 0
noncomputable def scR (c : List Int) (b : Int) : List Int × Int := if V c then (if b < 1 then ([], 1) else if nz c ∧ b > 60 then ([], 1) else if V (c.map (· * b)) then (c.map (· * b), 0) else ([], 1)) else ([], vErr c)
theorem mid_same {l : List Int} {j : Nat} (g : Int → Int) (hj : j < l.length) (h : g (l.getD j 0) = l.getD j 0) : (l.take j).map g ++ l.drop j = (l.take (j + 1)).map g ++ l.drop (j + 1) := by
  rw [take_getD 0 hj, List.map_append, List.append_assoc, drop_getD 0 hj, List.map_singleton, h]
  rfl
theorem w50 (c : List Int) (b : Int) (hc : c.length ≤ 1000) : implf50 5000 c b = some (scR c b) := by
  unfold implf50 scR
  rw [w32 c hc, obS, ibne, cnot, cdec]
  by_cases h : V c
  · have hl6 := h.1.2
    rw [if_pos (v_err.2 h), if_pos h, cdec]
    by_cases hb : b < 1
    · rw [if_pos hb, if_pos hb]
    · rw [if_neg hb, if_neg hb, w83 c hc, obS]
      have hh := uptoAll (fun k (s : List Int × Nat) => impll50_0 5000 k b s.1 (c.length : Int) (s.2 : Int)) (fun j => ((c.take j).map (· * b) ++ c.drop j, j)) c.length (fun j => ¬ (c.getD j 0 ≠ 0 ∧ b > 60)) (.inl (c.map (· * b), (c.length : Int), ())) (.inr ([], 1, ()))
        (fun k j hj hp => by
          show impll50_0 5000 (k + 1) b ((c.take j).map (· * b) ++ c.drop j) (c.length : Int) (j : Int) = _
          have hl : ((c.take j).map (· * b) ++ c.drop j).length = c.length := by simp; omega
          have hb2 := h.b _ (getD_mem 0 hj)
          rw [impll50_0, implb50_0, cdec, if_pos (by omega), if_pos ⟨by omega, by omega⟩, ibne, cnot, cdec, Int.toNat_natCast, get_mid _ hj]
          by_cases h0 : c.getD j 0 = 0
          · rw [if_pos h0, cnot, cdec, if_pos h0, wrapS (by omega), mid_same (· * b) hj (by rw [h0, Int.zero_mul])]
          · have hb6 : ¬ b > 60 := fun e => hp ⟨h0, e⟩
            have hm : -3600 ≤ c.getD j 0 * b ∧ c.getD j 0 * b ≤ 3600 := by
              have h1 : c.getD j 0 * b ≤ 60 * b := Int.mul_le_mul_of_nonneg_right (by omega) (by omega)
              have h2 : -60 * b ≤ c.getD j 0 * b := Int.mul_le_mul_of_nonneg_right (by omega) (by omega)
              omega
            rw [if_neg h0, cdec, if_neg hb6, cnot, cdec, if_neg h0, if_pos ⟨by omega, by omega⟩, if_pos ⟨by omega, by omega⟩, wrapI (by omega) (by omega), wrapS (by omega), set_map 0 (· * b) hj])
        (fun k j hj hp => by
          show impll50_0 5000 (k + 1) b ((c.take j).map (· * b) ++ c.drop j) (c.length : Int) (j : Int) = _
          have hl : ((c.take j).map (· * b) ++ c.drop j).length = c.length := by simp; omega
          have hp := Classical.not_not.1 hp
          rw [impll50_0, implb50_0, cdec, if_pos (by omega), if_pos ⟨by omega, by omega⟩, ibne, cnot, cdec, Int.toNat_natCast, get_mid _ hj, if_neg hp.1, cdec, if_pos hp.2])
        (fun k => by
          show impll50_0 5000 (k + 1) b ((c.take c.length).map (· * b) ++ c.drop c.length) (c.length : Int) (c.length : Int) = _
          rw [impll50_0, implb50_0, cdec, if_neg (by omega), List.take_length, List.drop_length, List.append_nil]) 5000 0 (by omega) (Nat.zero_le _)
      have hh : impll50_0 5000 5000 b c (c.length : Int) 0 = _ := hh
      rw [hh, obS]
      have hA : (∀ i, 0 ≤ i → i < c.length → ¬ (c.getD i 0 ≠ 0 ∧ b > 60)) ↔ ¬ (nz c ∧ b > 60) := by
        rw [all_getD 0 (fun y => ¬ (y ≠ 0 ∧ b > 60))]
        constructor
        · rintro h ⟨⟨y, hy, h0⟩, h6⟩; exact h y hy ⟨h0, h6⟩
        · intro h y hy h2; exact h ⟨⟨y, hy, h2.1⟩, h2.2⟩
      by_cases g : nz c ∧ b > 60
      · rw [if_neg (fun e => hA.1 e g), if_pos g]
      · rw [if_pos (hA.2 g), if_neg g]
        show (ob (implf32 5000 (c.map (· * b))) fun y5 => (bif y5 != 0 then some ([], 1) else some (c.map (· * b), 0))) = _
        rw [w32 _ (by simp; omega), obS, ibne, cnot, cdec]
        by_cases h2 : V (c.map (· * b))
        · rw [if_pos (v_err.2 h2), if_pos h2]
        · rw [if_neg (fun e => h2 (v_err.1 e)), if_neg h2]
  · rw [if_neg (fun e => h (v_err.1 e)), if_neg h]
theorem w51_0 (c : List Int) (b : Int) (h : V c) (hb : 1 ≤ b ∧ b ≤ 60) : impll51_0 5000 5000 c b [] 0 = some (c.map (· * b), (c.length : Int), ()) := by
  have hl6 := h.1.2
  have hh := upto (fun k (s : List Int × Nat) => impll51_0 5000 k c b s.1 (s.2 : Int)) (fun j => ((c.take j).map (· * b), j)) c.length (c.map (· * b), (c.length : Int), ())
    (fun k j hj => by
      show impll51_0 5000 (k + 1) c b ((c.take j).map (· * b)) (j : Int) = _
      have hb2 := h.b _ (getD_mem 0 hj)
      have hm : -3600 ≤ c.getD j 0 * b ∧ c.getD j 0 * b ≤ 3600 := by
        have h1 : c.getD j 0 * b ≤ 60 * b := Int.mul_le_mul_of_nonneg_right (by omega) (by omega)
        have h2 : -60 * b ≤ c.getD j 0 * b := Int.mul_le_mul_of_nonneg_right (by omega) (by omega)
        omega
      rw [impll51_0, implb51_0, cdec, if_pos (by omega), if_pos ⟨by omega, by omega⟩, if_pos (by simp; omega), Int.toNat_natCast, wrapI (by omega) (by omega), one1, wrapS (by omega), map_snoc 0 (· * b) hj])
    (fun k => by
      show impll51_0 5000 (k + 1) c b ((c.take c.length).map (· * b)) (c.length : Int) = _
      rw [impll51_0, implb51_0, cdec, if_neg (by omega), List.take_length]) 5000 0 (by omega) (Nat.zero_le _)
  exact hh
theorem w51 (c : List Int) (b : Int) (hc : c.length ≤ 1000) : implf51 5000 c b = some (scR c b) := by
  unfold implf51 scR
  rw [w33 c hc, obS, ibne, cnot, cdec]
  by_cases h : V c
  · have hl6 := h.1.2
    have hp := h.pos
    rw [if_pos (v_err.2 h), if_pos h, cdec]
    by_cases hb : b < 1
    · rw [if_pos hb, if_pos hb]
    · rw [if_neg hb, if_neg hb, ibeq, cdec]
      have rest : (nz c) → (bif decide (b > (60 : Int)) then some (([] : List Int), (1 : Int)) else (ob (impll51_0 5000 5000 c b [] 0) fun y4 => (ob (implf33 5000 y4.1) fun y5 => (bif y5 != (0 : Int) then some ([], 1) else some (y4.1, 0))))) =
          some (if nz c ∧ b > 60 then ([], 1) else if V (c.map (· * b)) then (c.map (· * b), 0) else ([], 1)) := by
        intro hz
        rw [cdec]
        by_cases h6 : b > 60
        · rw [if_pos h6, if_pos ⟨hz, h6⟩]
        · rw [if_neg h6, if_neg (fun e => h6 e.2), w51_0 c b h ⟨by omega, by omega⟩, obS]
          show (ob (implf33 5000 (c.map (· * b))) fun y5 => (bif y5 != 0 then some ([], 1) else some (c.map (· * b), 0))) = _
          rw [w33 _ (by simp; omega), obS, ibne, cnot, cdec]
          by_cases h2 : V (c.map (· * b))
          · rw [if_pos (v_err.2 h2), if_pos h2]
          · rw [if_neg (fun e => h2 (v_err.1 e)), if_neg h2]
      by_cases h1 : (c.length : Int) = 1
      · obtain ⟨y, rfl⟩ : ∃ y, c = [y] := by
          match c, h1 with
          | [y], _ => exact ⟨y, rfl⟩
          | [], h => simp at h
          | _ :: _ :: _, h => simp at h; omega
        rw [if_pos h1, if_pos ⟨by omega, by simp⟩, ibeq, cdec]
        by_cases hy : y = 0
        · subst hy
          have hz : ¬ (nz [0] ∧ b > 60) := by rintro ⟨⟨y, hy, h0⟩, _⟩; exact h0 (by simpa using hy)
          have e : ([0] : List Int).map (· * b) = [0] := by simp
          rw [if_pos (show ([0] : List Int).getD 0 0 = 0 from rfl), if_neg hz, e, if_pos h]; rfl
        · rw [if_neg (show ¬ [y].getD 0 0 = 0 from hy)]
          exact rest ⟨y, by simp, hy⟩
      · rw [if_neg h1]
        refine rest ?_
        apply Classical.byContradiction
        intro hn
        have hn : ∀ y ∈ c, y = 0 := fun y hy => Classical.byContradiction fun h0 => hn ⟨y, hy, h0⟩
        have h2 := (h.2.1 1 (Nat.zero_le _) (by omega)).2 (by omega)
        have e0 := hn _ (getD_mem 0 (show 1 - 1 < c.length by omega))
        have e1 := hn _ (getD_mem 0 (show 1 < c.length by omega))
        omega
  · rw [if_neg (fun e => h (v_err.1 e)), if_neg h]
theorem rawN_sc (c : List Int) (b : Int) : ∀ n, n ≤ c.length → rawN (c.map (· * b)) n = (rawN c n).map (b * ·)
  | 0, _ => rfl
  | n + 1, h => by
    rw [rawN, rawN, rawN_sc c b n (by omega), List.map_append, ← List.map_take, List.map_map, List.map_map, getD_map 0 0 (· * b) (show n < c.length by omega)]
    congr 1
    refine List.map_congr_left fun y _ => ?_
    show c.getD n 0 * b - y * b = b * (c.getD n 0 - y)
    rw [Int.mul_sub, Int.mul_comm b, Int.mul_comm b]
theorem D_sc (c : List Int) (b : Int) (hb : 0 ≤ b) : D (c.map (· * b)) = (D c).map (b * ·) := by
  unfold D
  symm
  refine is_isort ?_ ?_
  · unfold rawD
    rw [List.length_map, rawN_sc c b _ (Nat.le_refl _)]
    exact (isort_perm _).map _
  · rw [Srt, List.pairwise_map]
    refine (isort_sorted leI_tr leI_to _).imp fun {x y} h => ?_
    have := of_decide_eq_true h
    exact decide_eq_true (Int.mul_le_mul_of_nonneg_left this hb)
theorem rawN_b (c : List Int) (hB : B c) : ∀ n, n ≤ c.length → ∀ y ∈ rawN c n, -400 ≤ y ∧ y ≤ 400
  | 0, _, y, hy => by simp [rawN] at hy
  | n + 1, h, y, hy => by
    rw [rawN] at hy
    rcases List.mem_append.1 hy with hy | hy
    · exact rawN_b c hB n (by omega) y hy
    · obtain ⟨x, hx, rfl⟩ := List.mem_map.1 hy
      have h1 := hB x (List.mem_of_mem_take hx)
      have h2 := hB _ (getD_mem 0 (show n < c.length by omega))
      omega
theorem D_b {c : List Int} (hB : B c) : ∀ y ∈ D c, -400 ≤ y ∧ y ≤ 400 := fun y hy => rawN_b c hB _ (Nat.le_refl _) y ((isort_perm _).mem_iff.1 hy)
theorem scales_all (c : List Int) (b : Int) : implf14 5000 c b = some true := by
  unfold implf14
  rw [long1, obS, cdec]
  by_cases hl : 100 < c.length
  · rw [if_pos hl, sane5]; rfl
  · rw [if_neg hl, w50 c b (by omega), w51 c b (by omega), obS, obS]
    have hn : (scR c b).1.length ≤ 1000 := by
      unfold scR
      split
      · split
        · simp
        · split
          · simp
          · split
            · simp; omega
            · simp
      · simp
    rw [w24 _ _ hn, obS, decide_eq_true rfl]
    simp only [Bool.not_true, cond_false, ibne, cnot, decide_true, cdec]
    by_cases he : (scR c b).2 = 0
    · have hV : V c ∧ V (c.map (· * b)) ∧ scR c b = (c.map (· * b), 0) ∧ ¬ b < 1 := by
        unfold scR at he ⊢
        by_cases h1 : V c
        · rw [if_pos h1] at he ⊢
          by_cases h2 : b < 1
          · rw [if_pos h2] at he; exact absurd he (by decide)
          · rw [if_neg h2] at he ⊢
            by_cases h3 : nz c ∧ b > 60
            · rw [if_pos h3] at he; exact absurd he (by decide)
            · rw [if_neg h3] at he ⊢
              by_cases h4 : V (c.map (· * b))
              · rw [if_pos h4]; exact ⟨h1, h4, rfl, h2⟩
              · rw [if_neg h4] at he; exact absurd he (by decide)
        · rw [if_neg h1] at he; exact absurd (v_err.1 he) h1
      obtain ⟨h1, h2, h3, h4⟩ := hV
      rw [if_pos he, h3, w29 c (by omega), obS, w29 _ (by simp; omega), obS, if_pos h1, if_pos h2, v_err.2 h1, v_err.2 h2, if_pos rfl, if_pos rfl, D_sc c b (by omega), if_pos (by simp)]
      have hdl := D_len h1.1.2
      have hdb : ∀ y ∈ (D c).map (b * ·), -400 ≤ y ∧ y ≤ 400 := by rw [← D_sc c b (by omega)]; exact D_b h2.B
      have hh := upto (fun k (j : Nat) => impll14_0 5000 k b (D c) ((D c).map (b * ·)) (j : Int)) (fun j => j) (D c).length (.inl (((D c).length : Int), ()))
        (fun k j hj => by
          show impll14_0 5000 (k + 1) b (D c) ((D c).map (b * ·)) (j : Int) = _
          have hb2 := hdb _ (List.mem_map.2 ⟨_, getD_mem 0 hj, rfl⟩)
          rw [impll14_0, implb14_0, cdec, if_pos (by omega), if_pos ⟨by omega, by simp; omega⟩, if_pos ⟨by omega, by omega⟩, ibne, cnot, cdec, Int.toNat_natCast, getD_map 0 0 (b * ·) hj, wrapI (by omega) (by omega), if_pos rfl, wrapS (by omega)])
        (fun k => by
          show impll14_0 5000 (k + 1) b (D c) ((D c).map (b * ·)) ((D c).length : Int) = _
          rw [impll14_0, implb14_0, cdec, if_neg (by omega)]) 5000 0 (by omega) (Nat.zero_le _)
      have hh : impll14_0 5000 5000 b (D c) ((D c).map (b * ·)) 0 = _ := hh
      rw [hh, obS]
      show (ob (implf19 5000) fun y11 => some y11) = _
      rw [sane5]; rfl
    · rw [if_neg he, sane5]; rfl
end Go.Proofs.Ytdgibokmaannjaa
