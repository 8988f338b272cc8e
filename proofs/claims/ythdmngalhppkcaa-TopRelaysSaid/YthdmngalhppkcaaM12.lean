/- The kinds: what the two texts answer. -/
import Derived.Test.YthdmngalhppkcaaM11
set_option linter.unusedVariables false
set_option linter.unusedSimpArgs false
namespace Go.Proofs.Ythdmngalhppkcaa
open Go Go.Pv Classical

theorem f82 (K : Nat) (a c : List Int) (hK : a.length < K) (hb : a.length ≤ 1000000) : implf82 K a c = some (decide (a = c)) := by
  unfold implf82
  simp only [ibne, cnot, cdec]
  by_cases hl : a.length = c.length
  · rw [if_pos (by omega)]
    have h := uptoAll (fun k (j : Int) => impll82_0 K k a c a.length j) (fun j => (j : Int)) a.length (fun j => a.getD j 0 = c.getD j 0) (.inl ((a.length : Int), ())) (.inr false)
      (fun k j hj hp => by
        show impll82_0 K (k + 1) a c a.length j = _
        rw [impll82_0, implb82_0]
        simp only [ibne, cnot, cdec]
        rw [if_pos (by omega), if_pos (by omega), if_pos (by omega), if_pos (show a.getD (j : Int).toNat 0 = c.getD (j : Int).toNat 0 from hp), wrapS (by omega)])
      (fun k j hj hp => by
        show impll82_0 K (k + 1) a c a.length j = _
        rw [impll82_0, implb82_0]
        simp only [ibne, cnot, cdec]
        rw [if_pos (by omega), if_pos (by omega), if_pos (by omega), if_neg (show ¬ a.getD (j : Int).toNat 0 = c.getD (j : Int).toNat 0 from hp)])
      (fun k => by
        show impll82_0 K (k + 1) a c a.length (a.length : Nat) = _
        rw [impll82_0, implb82_0]
        simp only [cdec]
        rw [if_neg (by omega)]) K 0 (by omega) (by omega)
    have h : impll82_0 K K a c a.length 0 = _ := h
    rw [h]
    by_cases hr : ∀ i, 0 ≤ i → i < a.length → a.getD i 0 = c.getD i 0
    · rw [if_pos hr]
      have : a = c := by
        apply List.ext_getElem hl
        intro i g1 g2
        have := hr i (Nat.zero_le _) g1
        rwa [getD_lt 0 g1, getD_lt 0 g2] at this
      simp [this, obS]
    · rw [if_neg hr]
      have : a ≠ c := fun h => hr fun i _ _ => by rw [h]
      simp [this, obS]
  · rw [if_neg (by omega)]
    have : a ≠ c := fun h => hl (by rw [h])
    simp [this]

section
variable {b : Bx} (hv : V b)
include hv

theorem l59a (K k0 : Nat) {nw : List Int} (hnl : nw.length = b.1.length) {i : Nat} (hi : i < b.1.length) (n : Int) : ∀ (k j : Nat), i - j < k → j ≤ i → (∀ m, m < j → ¬ al b (k0 + 1) m i) →
    ∃ r, impll59_4 K k b (kdv b k0) (nw.set i (i : Int)) i n i i j = some (nw.set i (kd b (k0 + 1) i : Int), r)
  | 0, j, hk, _, _ => by omega
  | k + 1, j, hk, hj, hno => by
    have h6 := hv.2.1
    have h22 := hv.2.2.1
    rw [impll59_4, implb59_4]
    by_cases hlt : j < i
    · obtain ⟨a0, a0'⟩ := nn_lt hv hi (x := 0) (by omega)
      obtain ⟨a1, a1'⟩ := nn_lt hv hi (x := 1) (by omega)
      have hjb : j < b.1.length := by omega
      obtain ⟨c0, c0'⟩ := nn_lt hv hjb (x := 0) (by omega)
      obtain ⟨c1, c1'⟩ := nn_lt hv hjb (x := 1) (by omega)
      have hkl := kdv_len (b := b) k0
      have e1 : ∀ m : Nat, b.2.getD (m : Int).toNat 0 = ot b m := fun _ => rfl
      have e2 : ∀ m : Nat, (b.1.getD (m : Int).toNat (List.replicate 2 0)).getD 0 0 = nx b m 0 := fun _ => rfl
      have e3 : ∀ m : Nat, (b.1.getD (m : Int).toNat (List.replicate 2 0)).getD 1 0 = nx b m 1 := fun _ => rfl
      have g : ∀ m : Nat, m < b.1.length → ∀ x : Int, 0 ≤ x ∧ x ≤ 1 → (kdv b k0).getD (nx b m x).toNat 0 = (kd b k0 (nn b m x) : Int) := fun m hm x hx => kdv_get (nn_lt hv hm hx).1
      have t1 : (j : Int) < (i : Int) := by omega
      have t2 : 0 ≤ (i : Int) ∧ (i : Int) < (b.2.length : Int) := by omega
      have t3 : 0 ≤ (j : Int) ∧ (j : Int) < (b.2.length : Int) := by omega
      have t4 : 0 ≤ (i : Int) ∧ (i : Int) < (b.1.length : Int) := by omega
      have t5 : 0 ≤ (j : Int) ∧ (j : Int) < (b.1.length : Int) := by omega
      have t6 : 0 ≤ nx b i 0 ∧ nx b i 0 < ((kdv b k0).length : Int) := by omega
      have t7 : 0 ≤ nx b i 1 ∧ nx b i 1 < ((kdv b k0).length : Int) := by omega
      have t8 : 0 ≤ nx b j 0 ∧ nx b j 0 < ((kdv b k0).length : Int) := by omega
      have t9 : 0 ≤ nx b j 1 ∧ nx b j 1 < ((kdv b k0).length : Int) := by omega
      have t10 : 0 ≤ (i : Int) ∧ (i : Int) < ((nw.set i (i : Int)).length : Int) := by simp; omega
      simp only [e1, e2, e3, ibeq, cdec, if_pos t1, if_pos t2, if_pos t3, if_pos t4, if_pos t5, if_pos t6, if_pos t7, if_pos t8, if_pos t9, if_pos t10, g i hi 0 (by omega), g i hi 1 (by omega), g j hjb 0 (by omega), g j hjb 1 (by omega)]
      have hal : al b (k0 + 1) j i ↔ ot b i = ot b j ∧ (kd b k0 (nn b i 0) : Int) = (kd b k0 (nn b j 0) : Int) ∧ (kd b k0 (nn b i 1) : Int) = (kd b k0 (nn b j 1) : Int) := by
        constructor
        · intro h
          obtain ⟨q1, q2, q3⟩ := (al_succ hv hi hjb).1 (al_symm h)
          exact ⟨q1, by rw [kd_eq.2 q2], by rw [kd_eq.2 q3]⟩
        · rintro ⟨q1, q2, q3⟩
          exact al_symm ((al_succ hv hi hjb).2 ⟨q1, kd_eq.1 (by omega), kd_eq.1 (by omega)⟩)
      have hnext : ¬ al b (k0 + 1) j i → ∃ r, impll59_4 K k b (kdv b k0) (nw.set i (i : Int)) i n i i (IntKind.i64.wrap ((j : Int) + 1)) = some (nw.set i (kd b (k0 + 1) i : Int), r) := by
        intro hne
        rw [wrapS (by omega)]
        refine l59a K k0 hnl hi n k (j + 1) (by omega) (by omega) fun m hm hmi => ?_
        by_cases q : m = j
        · subst q; exact hne hmi
        · exact hno m (by omega) hmi
      by_cases q1 : ot b i = ot b j
      · rw [if_pos q1]
        by_cases q2 : (kd b k0 (nn b i 0) : Int) = (kd b k0 (nn b j 0) : Int)
        · rw [if_pos q2]
          by_cases q3 : (kd b k0 (nn b i 1) : Int) = (kd b k0 (nn b j 1) : Int)
          · rw [if_pos q3]
            have hk : kd b (k0 + 1) i = j := first_eq (p := fun m => al b (k0 + 1) m i) (al_refl _ i) (hal.2 ⟨q1, q2, q3⟩) hno
            rw [hk]
            exact ⟨_, by rw [show ((i : Int)).toNat = i from rfl, List.set_set]⟩
          · rw [if_neg q3]; exact hnext fun h => q3 (hal.1 h).2.2
        · rw [if_neg q2]; exact hnext fun h => q2 (hal.1 h).2.1
      · rw [if_neg q1]; exact hnext fun h => q1 (hal.1 h).1
    · have : j = i := by omega
      subst this
      simp only [cdec]
      rw [if_neg (by omega)]
      have hk : kd b (k0 + 1) j = j := first_eq (p := fun m => al b (k0 + 1) m j) (al_refl _ j) (al_refl _ j) hno
      rw [hk]
      exact ⟨_, rfl⟩

/-- The new kinds of the first i states. -/
noncomputable def part (b : Bx) (k i : Nat) : List Int := (List.range b.1.length).map fun m => if m < i then (kd b k m : Int) else 0
omit hv in
theorem part_succ (k : Nat) {i : Nat} (hi : i < b.1.length) : (part b k i).set i (kd b k i : Int) = part b k (i + 1) := by
  unfold part
  apply List.ext_getElem
  · simp
  · intro m h1 h2
    simp only [List.length_set, List.length_map, List.length_range] at h1
    rw [List.getElem_set]
    simp only [List.getElem_map, List.getElem_range]
    by_cases h : i = m
    · subst h; simp
    · rw [if_neg h]
      by_cases h3 : m < i
      · rw [if_pos h3, if_pos (by omega)]
      · rw [if_neg h3, if_neg (by omega)]

theorem l59b (K k0 : Nat) (hK : 10 ≤ K) : impll59_2 K K b (kdv b k0) (List.replicate b.1.length 0) b.1.length 0 = some (kdv b (k0 + 1), (b.1.length : Int), ()) := by
  have h6 := hv.2.1
  have h := upto (fun k (s : List Int × Int) => impll59_2 K k b (kdv b k0) s.1 b.1.length s.2) (fun i => (part b (k0 + 1) i, (i : Int))) b.1.length (kdv b (k0 + 1), (b.1.length : Int), ())
    (fun k i hi => by
      show impll59_2 K (k + 1) b (kdv b k0) (part b (k0 + 1) i) b.1.length i = impll59_2 K k b (kdv b k0) (part b (k0 + 1) (i + 1)) b.1.length ((i + 1 : Nat) : Int)
      rw [impll59_2, implb59_2]
      have hpl : (part b (k0 + 1) i).length = b.1.length := by simp [part]
      simp only [cdec]
      obtain ⟨r, hr⟩ := l59a hv K k0 hpl hi b.1.length K 0 (by omega) (by omega) (fun m hm => by omega)
      have hr : impll59_4 K K b (kdv b k0) ((part b (k0 + 1) i).set (i : Int).toNat i) i b.1.length i i 0 = _ := hr
      rw [if_pos (by omega), if_pos (by omega), hr, obS, wrapS (by omega), part_succ _ hi])
    (fun k => by
      show impll59_2 K (k + 1) b (kdv b k0) (part b (k0 + 1) b.1.length) b.1.length (b.1.length : Nat) = _
      rw [impll59_2, implb59_2]
      simp only [cdec]
      rw [if_neg (by omega)]
      have : part b (k0 + 1) b.1.length = kdv b (k0 + 1) := List.map_congr_left fun m hm => by rw [if_pos (List.mem_range.1 hm)]
      rw [this]) K 0 (by omega) (by omega)
  have e : part b (k0 + 1) 0 = List.replicate b.1.length 0 := by
    unfold part
    apply List.ext_getElem
    · simp
    · intro m h1 h2; simp
  have h : impll59_2 K K b (kdv b k0) (part b (k0 + 1) 0) b.1.length 0 = _ := h
  rw [e] at h
  exact h

theorem l59c (K : Nat) (hK : 10 ≤ K) : ∀ (k k0 : Nat), b.1.length - cnt b.1.length (al b) k0 < k → impll59_0 K k b (kdv b k0) = some (kinds b)
  | 0, k0, h => by omega
  | k + 1, k0, h => by
    have h6 := hv.2.1
    rw [impll59_0, implb59_0]
    have e1 : ((b.1.length : Nat) : Int).toNat = b.1.length := rfl
    have e2 : (((List.replicate b.1.length (0 : Int)).length : Nat) : Int) = (b.1.length : Int) := by simp
    rw [if_pos (by omega), e1, show (Int.ofNat (List.replicate b.1.length (0 : Int)).length) = (b.1.length : Int) from e2, l59b hv K k0 hK, obS]
    have hkl := kdv_len (b := b) k0
    show (ob (implf82 K (kdv b k0) (kdv b (k0 + 1))) _) = _
    rw [f82 K _ _ (by omega) (by omega), obS, cdec]
    by_cases he : kdv b k0 = kdv b (k0 + 1)
    · rw [if_pos he, kdv_same hv he]
    · rw [if_neg he]
      have h1 := kdv_diff hv he
      have h2 := cnt_le (n := b.1.length) (E := al b) (k0 + 1)
      exact l59c K hK k (k0 + 1) (by omega)

theorem f59 : implf59 300 b = some (kinds b) := by
  unfold implf59
  have h6 := hv.2.1
  rw [if_pos (by omega), show List.replicate ((b.1.length : Nat) : Int).toNat (0 : Int) = kdv b 0 from kdv_zero.symm, l59c hv 300 (by omega) 300 0 (by omega)]
  rfl
end

end Go.Proofs.Ythdmngalhppkcaa
