/- When the most shifts run. -/
import Derived.Test.YtbojnkcolamneaaM3
set_option linter.unusedVariables false
set_option linter.unusedSimpArgs false
namespace Go.Proofs.Ytbojnkcolamneaa
open Go Go.Pv Classical

theorem ilt (a b : Int) : a < b ∨ b ≤ a := by omega
/-- The first moment at which the most shifts run, and how many. -/
def isPk (l : List Shf) (a : Int) (n : Nat) : Prop := (∀ m, cnt l m ≤ n) ∧ ((n = 0 ∧ a = 0) ∨ (0 < n ∧ cnt l a = n ∧ ∀ m, m < a → cnt l m < n))
theorem isPk_unique {l : List Shf} {a b : Int} {n k : Nat} (h : isPk l a n) (g : isPk l b k) : a = b ∧ n = k := by
  obtain ⟨h1, h2⟩ := h
  obtain ⟨g1, g2⟩ := g
  rcases h2 with ⟨h2, h3⟩ | ⟨h2, h3, h4⟩
  · rcases g2 with ⟨g2, g3⟩ | ⟨g2, g3, g4⟩
    · exact ⟨by omega, by omega⟩
    · have := h1 b; omega
  · rcases g2 with ⟨g2, g3⟩ | ⟨g2, g3, g4⟩
    · have := g1 a; omega
    · have e : n = k := by have := h1 b; have := g1 a; omega
      refine ⟨?_, e⟩
      rcases Int.lt_trichotomy a b with h | h | h
      · have := g4 a h; omega
      · exact h
      · have := h4 b h; omega

/-- The most among the first of a list of moments. -/
def most (l : List Shf) (t : Int × Nat) (m : Int) : Int × Nat := if cnt l m > t.2 then (m, cnt l m) else t
theorem most_inv (l : List Shf) : ∀ (ms : List Int) (t : Int × Nat), let r := ms.foldl (most l) t
    t.2 ≤ r.2 ∧ (∀ m ∈ ms, cnt l m ≤ r.2) ∧ (r = t ∨ (t.2 < r.2 ∧ ∃ p q, ms = p ++ r.1 :: q ∧ cnt l r.1 = r.2 ∧ ∀ m ∈ p, cnt l m < r.2))
  | [], t => ⟨Nat.le_refl _, by simp, .inl rfl⟩
  | m :: ms, t => by
    obtain ⟨h1, h2, h3⟩ := most_inv l ms (most l t m)
    simp only [List.foldl_cons]
    generalize ms.foldl (most l) (most l t m) = r at h1 h2 h3 ⊢
    have hm : cnt l m ≤ (most l t m).2 ∧ t.2 ≤ (most l t m).2 := by unfold most; split <;> simp <;> omega
    refine ⟨by omega, ?_, ?_⟩
    · intro x hx
      rcases List.mem_cons.1 hx with rfl | hx
      · omega
      · exact h2 x hx
    · rcases h3 with h3 | ⟨h3, p, q, e, h4, h5⟩
      · by_cases hc : cnt l m > t.2
        · have e : most l t m = (m, cnt l m) := if_pos hc
          rw [e] at h3
          refine .inr ⟨by rw [h3]; exact hc, [], ms, by rw [h3]; rfl, by rw [h3], by simp⟩
        · have e : most l t m = t := if_neg hc
          exact .inl (h3.trans e)
      · refine .inr ⟨by omega, m :: p, q, by rw [e]; rfl, h4, ?_⟩
        intro x hx
        rcases List.mem_cons.1 hx with rfl | hx
        · omega
        · exact h5 x hx

theorem isPk_of {l : List Shf} {ms : List Int} (hs : ms.Pairwise (· ≤ ·)) (hall : ∀ m, 0 < cnt l m → ∃ x ∈ ms, x ≤ m ∧ cnt l m ≤ cnt l x) : isPk l (ms.foldl (most l) (0, 0)).1 (ms.foldl (most l) (0, 0)).2 := by
  obtain ⟨h1, h2, h3⟩ := most_inv l ms (0, 0)
  generalize ms.foldl (most l) (0, 0) = r at h1 h2 h3 ⊢
  have hb : ∀ m, cnt l m ≤ r.2 := by
    intro m
    rcases Nat.eq_zero_or_pos (cnt l m) with h | h
    · omega
    · obtain ⟨x, hx, _, h4⟩ := hall m h
      exact Nat.le_trans h4 (h2 x hx)
  refine ⟨hb, ?_⟩
  rcases h3 with h3 | ⟨h3, p, q, e, h4, h5⟩
  · exact .inl ⟨by rw [h3], by rw [h3]⟩
  · refine .inr ⟨by have : (0 : Nat) < r.2 := h3; exact this, h4, fun m hm => ?_⟩
    rcases Nat.lt_or_ge (cnt l m) r.2 with h | h
    · exact h
    · have h3 : (0 : Nat) < r.2 := h3
      obtain ⟨x, hx, h6, h7⟩ := hall m (by omega)
      rw [e] at hx hs
      rcases List.mem_append.1 hx with hx | hx
      · have := h5 x hx; omega
      · rcases List.mem_cons.1 hx with rfl | hx
        · omega
        · have := (List.pairwise_cons.1 (List.pairwise_append.1 hs).2.1).1 x hx
          omega

/-- The most run where a shift begins. -/
theorem cnt_begin {l : List Shf} {m : Int} (h : 0 < cnt l m) : ∃ s ∈ l, s.1 ≤ m ∧ cnt l m ≤ cnt l s.1 := by
  obtain ⟨s0, hs0, hr0⟩ := List.countP_pos_iff.1 h
  have ex : ∃ s ∈ l, rn s m ∧ ∀ t ∈ l, rn t m → t.1 ≤ s.1 := by
    have key : ∀ k : List Shf, (∃ s ∈ k, rn s m) → ∃ s ∈ k, rn s m ∧ ∀ t ∈ k, rn t m → t.1 ≤ s.1 := by
      intro k
      induction k with
      | nil => rintro ⟨s, hs, _⟩; cases hs
      | cons a k ih =>
        intro hex
        by_cases hk : ∃ s ∈ k, rn s m
        · obtain ⟨s, hs, h1, h2⟩ := ih hk
          by_cases ha : rn a m ∧ s.1 < a.1
          · refine ⟨a, by simp, ha.1, fun t ht htr => ?_⟩
            rcases List.mem_cons.1 ht with rfl | ht
            · exact Int.le_refl _
            · have := h2 t ht htr; omega
          · refine ⟨s, by simp [hs], h1, fun t ht htr => ?_⟩
            rcases List.mem_cons.1 ht with rfl | ht
            · rcases ilt s.1 t.1 with h | h
              · exact absurd ⟨htr, h⟩ ha
              · exact h
            · exact h2 t ht htr
        · obtain ⟨s, hs, hr⟩ := hex
          rcases List.mem_cons.1 hs with rfl | hs
          · refine ⟨s, by simp, hr, fun t ht htr => ?_⟩
            rcases List.mem_cons.1 ht with rfl | ht
            · exact Int.le_refl _
            · exact absurd ⟨t, ht, htr⟩ hk
          · exact absurd ⟨s, hs, hr⟩ hk
    exact key l ⟨s0, hs0, runsB_iff.1 hr0⟩
  obtain ⟨s, hs, h1, h2⟩ := ex
  refine ⟨s, hs, h1.1, ?_⟩
  unfold cnt
  refine List.countP_mono_left fun t ht htr => ?_
  have htr := runsB_iff.1 htr
  have := h2 t ht htr
  refine runsB_iff.2 ⟨this, ?_⟩
  have := htr.2
  have := h1.1
  omega

theorem f23 (K : Nat) (hK : 12 < K) (l : List Shf) (hl : ∀ s ∈ l, inS s) : ∃ a n, implf23 K l = some (if er l = 0 then (a, ((n : Nat) : Int), 0) else (0, 0, er l)) ∧ (er l = 0 → isPk l a n) := by
  unfold implf23
  rw [f31 K hK l hl]
  simp only [obS, ibne, cdec, cnot]
  by_cases h : er l = 0
  · have hV := er_ok.1 h
    simp only [h, if_true]
    rw [f67a K l hV.1 hK]
    simp only [obS]
    have hb : l.length.ble 1000 = true := by rw [Nat.ble_eq]; have := hV.1; omega
    have := foldTo (fun k j (t : Int × Nat) => impll23_0 K k l t.1 (t.2 : Int) (byB l) ((byB l).length : Int) (j : Int)) (byB l) z4 (fun t y => most l t y.1.1) (fun _ _ => True) (fun t => (t.1, (t.2 : Int), ((byB l).length : Int), ()))
      (fun k j t hj _ => ⟨by
        show impll23_0 K (k + 1) l t.1 t.2 (byB l) _ j = impll23_0 K k l (most l t ((byB l).getD j z4).1.1).1 ((most l t ((byB l).getD j z4).1.1).2 : Int) (byB l) _ ((j + 1 : Nat) : Int)
        rw [impll23_0, implb23_0]
        simp only [cdec, hb, cond_true]
        have e : (byB l).getD (j : Int).toNat (((0 : Int), (0 : Int), (0 : Int)), (0 : Int)) = (byB l).getD j z4 := rfl
        have hlen : (byB l).length ≤ 12 := by rw [byB_length]; exact hV.1
        rw [if_pos (by omega), if_pos (by omega), e, foldl_wrap _ 0 (by omega) (by rw [atN_cnt]; have := cnt_le l ((byB l).getD j z4).1.1; have := hV.1; omega), atN_cnt, wrapS (by omega)]
        unfold most
        by_cases hc : cnt l ((byB l).getD j z4).1.1 > t.2
        · rw [if_pos (by omega), if_pos hc]
          simp
        · rw [if_neg (by omega), if_neg hc], trivial⟩)
      (fun k t _ => by
        show impll23_0 K (k + 1) l t.1 t.2 (byB l) _ (byB l).length = _
        rw [impll23_0, implb23_0]
        simp only [cdec]
        rw [if_neg (by omega)]) K 0 (0, 0) (by rw [byB_length]; have := hV.1; omega) (Nat.zero_le _) trivial
    obtain ⟨this, -⟩ := this
    simp only [List.drop_zero] at this
    have this : impll23_0 K K l 0 0 (byB l) ((byB l).length : Int) 0 = _ := this
    rw [this]
    refine ⟨_, _, rfl, fun _ => ?_⟩
    have e : (byB l).foldl (fun t y => most l t y.1.1) (0, 0) = ((byB l).map fun y => y.1.1).foldl (most l) (0, 0) := by rw [List.foldl_map]
    rw [e]
    refine isPk_of ?_ ?_
    · rw [List.pairwise_map]; exact byB_sorted l
    · intro m hm
      obtain ⟨s, hs, h1, h2⟩ := cnt_begin hm
      have : s ∈ (byB l).map fun y => y.1 := (byB_fst l).mem_iff.2 hs
      obtain ⟨y, hy, rfl⟩ := List.mem_map.1 this
      exact ⟨y.1.1, List.mem_map.2 ⟨y, hy, rfl⟩, h1, h2⟩
  · exact ⟨0, 0, by simp only [h, if_false], fun g => absurd g h⟩

theorem f33 (K : Nat) (hK : 1002 < K) (l : List Shf) : ∃ a n, implf33 K l = some (if er l = 0 then (a, ((n : Nat) : Int), 0) else (0, 0, er l)) ∧ (er l = 0 → isPk l a n) := by
  unfold implf33
  rw [f25 K (by omega) l]
  simp only [obS, ibne, cdec, cnot]
  by_cases h : er l = 0
  · have hV := er_ok.1 h
    simp only [h, if_true]
    obtain ⟨rg, hrg⟩ : ∃ rg, rg = List.range 1001 := ⟨_, rfl⟩
    have hlen : rg.length = 1001 := by rw [hrg]; exact List.length_range
    have := foldTo (fun k j (t : Int × Nat) => impll33_0 K k l t.1 (t.2 : Int) (j : Int)) rg 0 (fun t j => most l t (j : Nat)) (fun _ _ => True) (fun t => (t.1, (t.2 : Int), (1001 : Int), ()))
      (fun k j t hj _ => ⟨by
        show impll33_0 K (k + 1) l t.1 t.2 j = impll33_0 K k l (most l t ((rg.getD j 0 : Nat) : Int)).1 ((most l t ((rg.getD j 0 : Nat) : Int)).2 : Int) ((j + 1 : Nat) : Int)
        rw [hlen] at hj
        have e : rg.getD j 0 = j := by rw [hrg]; simp [List.getD, hj]
        rw [e, impll33_0, implb33_0]
        simp only [cdec]
        rw [if_pos (by omega), f80 K l hV.1 (by omega), obS, atN_cnt, wrapS (by omega)]
        unfold most
        by_cases hc : cnt l j > t.2
        · rw [if_pos (by omega), if_pos hc]
        · rw [if_neg (by omega), if_neg hc], trivial⟩)
      (fun k t _ => by
        show impll33_0 K (k + 1) l t.1 t.2 rg.length = _
        rw [hlen, impll33_0, implb33_0]
        simp only [cdec]
        rw [if_neg (by omega)]
        rfl) K 0 (0, 0) (by rw [hlen]; omega) (Nat.zero_le _) trivial
    obtain ⟨this, -⟩ := this
    simp only [List.drop_zero] at this
    have this : impll33_0 K K l 0 0 0 = _ := this
    rw [this]
    refine ⟨_, _, rfl, fun _ => ?_⟩
    have e : rg.foldl (fun (t : Int × Nat) (j : Nat) => most l t (j : Int)) (0, 0) = (rg.map fun j : Nat => (j : Int)).foldl (most l) (0, 0) := by rw [List.foldl_map]
    rw [e]
    refine isPk_of ?_ ?_
    · rw [List.pairwise_map]
      rw [hrg]
      exact List.pairwise_lt_range.imp fun h => by omega
    · intro m hm
      refine ⟨m, List.mem_map.2 ⟨m.toNat, ?_, ?_⟩, Int.le_refl _, Nat.le_refl _⟩
      · rcases ilt m 0 with h | h
        · rw [cnt_out hV.2 (.inl h)] at hm; omega
        · rcases ilt m 1000 with g | g
          · rw [hrg, List.mem_range]; omega
          · rw [cnt_out hV.2 (.inr g)] at hm; omega
      · rcases ilt m 0 with h | h
        · rw [cnt_out hV.2 (.inl h)] at hm; omega
        · omega
  · exact ⟨0, 0, by simp only [h, if_false], fun g => absurd g h⟩

/-- How many run at the most. -/
noncomputable def pk (l : List Shf) : Int × Nat := if h : ∃ a n, isPk l a n then (h.choose, h.choose_spec.choose) else (0, 0)
theorem pk_eq {l : List Shf} {a : Int} {n : Nat} (h : isPk l a n) : pk l = (a, n) := by
  have hex : ∃ a n, isPk l a n := ⟨a, n, h⟩
  have := isPk_unique hex.choose_spec.choose_spec h
  unfold pk
  rw [dif_pos hex]
  exact Prod.ext this.1 this.2
noncomputable def pkr (l : List Shf) : Int × Int × Int := if er l = 0 then ((pk l).1, ((pk l).2 : Int), 0) else (0, 0, er l)
theorem f23' (K : Nat) (hK : 12 < K) (l : List Shf) (hl : ∀ s ∈ l, inS s) : implf23 K l = some (pkr l) := by
  obtain ⟨a, n, h1, h2⟩ := f23 K hK l hl
  rw [h1]
  unfold pkr
  by_cases h : er l = 0
  · rw [if_pos h, if_pos h, pk_eq (h2 h)]
  · rw [if_neg h, if_neg h]
theorem f33' (K : Nat) (hK : 1002 < K) (l : List Shf) : implf33 K l = some (pkr l) := by
  obtain ⟨a, n, h1, h2⟩ := f33 K hK l
  rw [h1]
  unfold pkr
  by_cases h : er l = 0
  · rw [if_pos h, if_pos h, pk_eq (h2 h)]
  · rw [if_neg h, if_neg h]
theorem pk_is {l : List Shf} (hl : ∀ s ∈ l, inS s) (h : er l = 0) : isPk l (pk l).1 (pk l).2 := by
  obtain ⟨a, n, _, h2⟩ := f23 13 (by omega) l hl
  rw [pk_eq (h2 h)]
  exact h2 h
end Go.Proofs.Ytbojnkcolamneaa
