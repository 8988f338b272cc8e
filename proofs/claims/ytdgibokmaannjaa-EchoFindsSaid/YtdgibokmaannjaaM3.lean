/- Claimed delays. -/
import Derived.Test.YtdgibokmaannjaaM2
set_option linter.unusedVariables false
set_option linter.unusedSimpArgs false
namespace Go.Proofs.Ytdgibokmaannjaa
open Go Go.Pv Classical

/-- A loop that counts up until it finds. -/
theorem uptoFind {σ ρ : Type} (l : Nat → σ → Option ρ) (s : Nat → σ) (n : Nat) (p : Nat → Prop) (r : ρ) (r' : Nat → ρ) (hs : ∀ k j, j < n → p j → l (k + 1) (s j) = l k (s (j + 1))) (hb : ∀ k j, j < n → ¬ p j → l (k + 1) (s j) = some (r' j))
    (he : ∀ k, l (k + 1) (s n) = some r) : ∀ k j, n - j < k → j ≤ n → (l k (s j) = some r ∧ ∀ i, j ≤ i → i < n → p i) ∨ ∃ i, j ≤ i ∧ i < n ∧ ¬ p i ∧ (∀ t, j ≤ t → t < i → p t) ∧ l k (s j) = some (r' i)
  | 0, j, hk, _ => by omega
  | k + 1, j, hk, hj => by
    by_cases h : j < n
    · by_cases g : p j
      · rw [hs k j h g]
        rcases uptoFind l s n p r r' hs hb he k (j + 1) (by omega) (by omega) with ⟨h1, h2⟩ | ⟨i, h1, h2, h3, h4, h5⟩
        · refine .inl ⟨h1, fun i h3 h4 => ?_⟩
          rcases Nat.lt_or_ge j i with h5 | h5
          · exact h2 i h5 h4
          · have : i = j := by omega
            subst this; exact g
        · refine .inr ⟨i, by omega, h2, h3, fun t h6 h7 => ?_, h5⟩
          rcases Nat.lt_or_ge j t with h8 | h8
          · exact h4 t h8 h7
          · have : t = j := by omega
            subst this; exact g
      · exact .inr ⟨j, Nat.le_refl _, h, g, fun t h1 h2 => by omega, hb k j h g⟩
    · have : j = n := by omega
      subst this
      exact .inl ⟨he k, fun i h1 h2 => by omega⟩

theorem w100 (l : List Int) (x : Int) (hl : l.length ≤ 1000) : (implf100 5000 l x = some (-1) ∧ x ∉ l) ∨ ∃ i, i < l.length ∧ l.getD i 0 = x ∧ implf100 5000 l x = some (i : Int) := by
  unfold implf100
  rcases uptoFind (fun k (j : Nat) => impll100_0 5000 k l x (l.length : Int) (j : Int)) (fun j => j) l.length (fun j => x ≠ l.getD j 0) (.inl ((l.length : Int), ())) (fun j => .inr (j : Int))
    (fun k j hj hp => by
      show impll100_0 5000 (k + 1) l x (l.length : Int) (j : Int) = _
      rw [impll100_0, implb100_0, cdec, if_pos (by omega), if_pos ⟨by omega, by omega⟩, ibeq, cdec, Int.toNat_natCast, if_neg hp, wrapS (by omega)])
    (fun k j hj hp => by
      show impll100_0 5000 (k + 1) l x (l.length : Int) (j : Int) = _
      rw [impll100_0, implb100_0, cdec, if_pos (by omega), if_pos ⟨by omega, by omega⟩, ibeq, cdec, Int.toNat_natCast, if_pos (Classical.not_not.1 hp)])
    (fun k => by
      show impll100_0 5000 (k + 1) l x (l.length : Int) (l.length : Int) = _
      rw [impll100_0, implb100_0, cdec, if_neg (by omega)]) 5000 0 (by omega) (Nat.zero_le _) with ⟨h1, h2⟩ | ⟨i, h1, h2, h3, h4, h5⟩
  · refine .inl ⟨?_, fun hx => ?_⟩
    · have h1 : impll100_0 5000 5000 l x (l.length : Int) 0 = _ := h1
      rw [h1]; rfl
    · exact (all_getD 0 (fun y => x ≠ y)).1 h2 x hx rfl
  · refine .inr ⟨i, h2, (Classical.not_not.1 h3).symm, ?_⟩
    have h5 : impll100_0 5000 5000 l x (l.length : Int) 0 = _ := h5
    rw [h5]; rfl

def tri (n : Nat) : Bool := n == 0 || n == 1 || n == 3 || n == 6 || n == 10 || n == 15
set_option maxRecDepth 1000000 in
theorem w87t : ∀ n : Nat, n ≤ 15 → (ob (implf87 5000 (n : Int)) fun y3 => (bif y3 == (0 : Int) then some (1 : Int) else some (0 : Int))) = some (if tri n then 0 else 1)
  | 0, _ => by kernel_rfl
  | 1, _ => by kernel_rfl
  | 2, _ => by kernel_rfl
  | 3, _ => by kernel_rfl
  | 4, _ => by kernel_rfl
  | 5, _ => by kernel_rfl
  | 6, _ => by kernel_rfl
  | 7, _ => by kernel_rfl
  | 8, _ => by kernel_rfl
  | 9, _ => by kernel_rfl
  | 10, _ => by kernel_rfl
  | 11, _ => by kernel_rfl
  | 12, _ => by kernel_rfl
  | 13, _ => by kernel_rfl
  | 14, _ => by kernel_rfl
  | 15, _ => by kernel_rfl
  | n + 16, h => by omega
theorem w103 (K : Nat) (a b : Int) : implf103 K a b = some (decide (a < b)) := by
  unfold implf103
  rw [ibne, decide_eq_true rfl]; rfl
def SrtA (l : List Int) : Prop := ∀ i, 1 ≤ i → i < l.length → ¬ l.getD i 0 < l.getD (i - 1) 0
theorem w91 (l : List Int) (hl : l.length ≤ 1000) : implf91 5000 l = some (decide (SrtA l)) := by
  unfold implf91
  by_cases h0 : l.length = 0
  · rw [h0, show IntKind.i64.wrap (((0 : Nat) : Int) - 1) = -1 from by rw [wrapI (by omega) (by omega)]; rfl, show (5000 : Nat) = 4999 + 1 from rfl, impll91_0, implb91_0, cdec, if_neg (by omega), obS, decide_eq_true]
    intro i h1 h2; omega
  · have h := uptoAll (fun k (j : Nat) => impll91_0 5000 k l ((l.length - 1 - j : Nat) : Int)) (fun j => j) (l.length - 1) (fun j => ¬ l.getD (l.length - 1 - j) 0 < l.getD (l.length - 1 - j - 1) 0) (.inl (0, ())) (.inr false)
      (fun k j hj hp => by
        show impll91_0 5000 (k + 1) l ((l.length - 1 - j : Nat) : Int) = _
        rw [impll91_0, implb91_0, cdec, if_pos (by omega), if_pos ⟨by omega, by omega⟩, wrapP (by omega) (by omega), if_pos ⟨by omega, by omega⟩, w103, obS, cdec, Int.toNat_natCast, Int.toNat_natCast, if_neg hp]
        congr 2)
      (fun k j hj hp => by
        show impll91_0 5000 (k + 1) l ((l.length - 1 - j : Nat) : Int) = _
        rw [impll91_0, implb91_0, cdec, if_pos (by omega), if_pos ⟨by omega, by omega⟩, wrapP (by omega) (by omega), if_pos ⟨by omega, by omega⟩, w103, obS, cdec, Int.toNat_natCast, Int.toNat_natCast, if_pos (Classical.not_not.1 hp)])
      (fun k => by
        show impll91_0 5000 (k + 1) l ((l.length - 1 - (l.length - 1) : Nat) : Int) = _
        rw [Nat.sub_self, impll91_0, implb91_0, cdec, if_neg (by omega)]; rfl) 5000 0 (by omega) (Nat.zero_le _)
    have h : impll91_0 5000 5000 l ((l.length - 1 : Nat) : Int) = _ := h
    rw [wrapP (by omega) (by omega), h, obS]
    have hA : (∀ j, 0 ≤ j → j < l.length - 1 → ¬ l.getD (l.length - 1 - j) 0 < l.getD (l.length - 1 - j - 1) 0) ↔ SrtA l := by
      constructor
      · intro h i h1 h2
        have := h (l.length - 1 - i) (Nat.zero_le _) (by omega)
        rwa [show l.length - 1 - (l.length - 1 - i) = i by omega] at this
      · intro h j _ h2
        exact h _ (by omega) (by omega)
    by_cases g : SrtA l
    · rw [if_pos (hA.2 g), decide_eq_true g]
    · rw [if_neg (fun h => g (hA.1 h)), decide_eq_false g]
def ok60 (l : List Int) : Prop := ∀ s ∈ l, 1 ≤ s ∧ s ≤ 60
theorem w109 (l : List Int) (hl : l.length ≤ 1000) : ∃ v, implf109 5000 l () = some v ∧ (v ≥ 0 ↔ ¬ ok60 l) := by
  unfold implf109
  rcases uptoFind (fun k (j : Nat) => impll109_0 5000 k l () (l.length : Int) (j : Int)) (fun j => j) l.length (fun j => 1 ≤ l.getD j 0 ∧ l.getD j 0 ≤ 60) (.inl ((l.length : Int), ())) (fun j => .inr (j : Int))
    (fun k j hj hp => by
      show impll109_0 5000 (k + 1) l () (l.length : Int) (j : Int) = _
      rw [impll109_0, implb109_0, cdec, if_pos (by omega), if_pos ⟨by omega, by omega⟩, w61, obS, cnot, cdec, Int.toNat_natCast, if_pos hp, wrapS (by omega)])
    (fun k j hj hp => by
      show impll109_0 5000 (k + 1) l () (l.length : Int) (j : Int) = _
      rw [impll109_0, implb109_0, cdec, if_pos (by omega), if_pos ⟨by omega, by omega⟩, w61, obS, cnot, cdec, Int.toNat_natCast, if_neg hp])
    (fun k => by
      show impll109_0 5000 (k + 1) l () (l.length : Int) (l.length : Int) = _
      rw [impll109_0, implb109_0, cdec, if_neg (by omega)]) 5000 0 (by omega) (Nat.zero_le _) with ⟨h1, h2⟩ | ⟨i, h1, h2, h3, h4, h5⟩
  · have h1 : impll109_0 5000 5000 l () (l.length : Int) 0 = _ := h1
    rw [h1]
    refine ⟨-1, rfl, fun h => absurd h (by decide), fun h => absurd ((all_getD 0 (fun y => 1 ≤ y ∧ y ≤ 60)).1 h2) h⟩
  · have h5 : impll109_0 5000 5000 l () (l.length : Int) 0 = _ := h5
    rw [h5]
    exact ⟨(i : Int), rfl, fun _ h => h3 (h _ (getD_mem 0 h2)), fun _ => by omega⟩

noncomputable def dErr (l : List Int) : Int := if 15 < l.length then 3 else if tri l.length = true ∧ SrtA l ∧ ok60 l then 0 else 1
theorem w72 (l : List Int) (hl : l.length ≤ 1000) : implf72 5000 l = some (dErr l) := by
  unfold implf72 dErr
  rw [cdec]
  by_cases h15 : 15 < l.length
  · rw [if_pos (by omega), if_pos h15]
  · rw [if_neg (by omega), if_neg h15]
    have ht : ∃ v, implf100 5000 (((((((List.replicate 6 (0 : Int)).set 0 0).set 1 1).set 2 3).set 3 6).set 4 10).set 5 15) (l.length : Int) = some v ∧ (v ≥ 0 ↔ tri l.length = true) := by
      have hm : (l.length : Int) ∈ (((((((List.replicate 6 (0 : Int)).set 0 0).set 1 1).set 2 3).set 3 6).set 4 10).set 5 15) ↔ tri l.length = true := by
        show (l.length : Int) ∈ ([0, 1, 3, 6, 10, 15] : List Int) ↔ _
        simp only [List.mem_cons, List.not_mem_nil, or_false, tri, Bool.or_eq_true, beq_iff_eq]
        omega
      rcases w100 (((((((List.replicate 6 (0 : Int)).set 0 0).set 1 1).set 2 3).set 3 6).set 4 10).set 5 15) (l.length : Int) (by decide) with ⟨h1, h2⟩ | ⟨i, h1, h2, h3⟩
      · exact ⟨-1, h1, fun h => absurd h (by decide), fun h => absurd (hm.2 h) h2⟩
      · exact ⟨i, h3, fun _ => hm.1 (h2 ▸ getD_mem 0 h1), fun _ => by omega⟩
    obtain ⟨v, hv, hvt⟩ := ht
    have hv' : implf100 5000 (((((((List.replicate 6 (0 : Int)).set 0 0).set 1 1).set 2 3).set 3 6).set 4 10).set 5 15) (Int.ofNat l.length) = some v := hv
    obtain ⟨u, hu, hut⟩ := w109 l (by omega)
    rw [show ((l.length : Nat) : Int) = Int.ofNat l.length from rfl, hv', obS, cnot, cdec]
    by_cases g1 : v ≥ 0
    · rw [if_pos g1, w91 l (by omega), obS, cnot, cdec]
      by_cases g2 : SrtA l
      · rw [if_pos g2, hu, obS, cdec]
        by_cases g3 : u ≥ 0
        · rw [if_pos g3, if_neg (fun h => hut.1 g3 h.2.2)]
        · rw [if_neg g3, if_pos ⟨hvt.1 g1, g2, Classical.not_not.1 (fun h => g3 (hut.2 h))⟩]
      · rw [if_neg g2, if_neg (fun h => g2 h.2.1)]
    · rw [if_neg g1, if_neg (fun h => g1 (hvt.2 h.1))]
def okE (l : List Int) (i : Nat) : Prop := (1 ≤ l.getD i 0 ∧ l.getD i 0 ≤ 60) ∧ (0 < i → ¬ l.getD (i - 1) 0 > l.getD i 0)
theorem w73 (l : List Int) (hl : l.length ≤ 1000) : implf73 5000 l = some (dErr l) := by
  unfold implf73 dErr
  rw [cdec]
  by_cases h15 : 15 < l.length
  · rw [if_pos (by omega), if_pos h15]
  · rw [if_neg (by omega), if_neg h15]
    have h := uptoAll (fun k (j : Nat) => impll73_0 5000 k l (j : Int)) (fun j => j) l.length (okE l) (.inl ((l.length : Int), ())) (.inr 1)
      (fun k j hj hp => by
        show impll73_0 5000 (k + 1) l (j : Int) = _
        rw [impll73_0, implb73_0, cdec, if_pos (by omega), if_pos ⟨by omega, by omega⟩, w63, obS, cnot, cdec, Int.toNat_natCast, if_pos hp.1, cdec]
        by_cases h0 : 0 < j
        · rw [if_pos (by omega), wrapP h0 (by omega), if_pos ⟨by omega, by omega⟩, if_pos ⟨by omega, by omega⟩, cdec, Int.toNat_natCast, if_neg (hp.2 h0), wrapS (by omega)]
        · rw [if_neg (by omega), wrapS (by omega)])
      (fun k j hj hp => by
        show impll73_0 5000 (k + 1) l (j : Int) = _
        rw [impll73_0, implb73_0, cdec, if_pos (by omega), if_pos ⟨by omega, by omega⟩, w63, obS, cnot, cdec, Int.toNat_natCast]
        by_cases h1 : 1 ≤ l.getD j 0 ∧ l.getD j 0 ≤ 60
        · rw [if_pos h1, cdec]
          by_cases h0 : 0 < j
          · rw [if_pos (by omega), wrapP h0 (by omega), if_pos ⟨by omega, by omega⟩, if_pos ⟨by omega, by omega⟩, cdec, Int.toNat_natCast, if_pos]
            apply Classical.byContradiction
            intro h2
            exact hp ⟨h1, fun _ => h2⟩
          · exact absurd ⟨h1, fun h => absurd h h0⟩ hp
        · rw [if_neg h1])
      (fun k => by
        show impll73_0 5000 (k + 1) l (l.length : Int) = _
        rw [impll73_0, implb73_0, cdec, if_neg (by omega)]) 5000 0 (by omega) (Nat.zero_le _)
    have h : impll73_0 5000 5000 l 0 = _ := h
    rw [h, obS]
    have hA : (∀ i, 0 ≤ i → i < l.length → okE l i) ↔ SrtA l ∧ ok60 l := by
      constructor
      · intro h
        exact ⟨fun i h1 h2 => by have := (h i (Nat.zero_le _) h2).2 (by omega); omega, (all_getD 0 (fun y => 1 ≤ y ∧ y ≤ 60)).1 fun i h1 h2 => (h i h1 h2).1⟩
      · rintro ⟨h1, h2⟩ i _ h4
        exact ⟨h2 _ (getD_mem 0 h4), fun h0 => by have := h1 i (by omega) h4; omega⟩
    by_cases g : ∀ i, 0 ≤ i → i < l.length → okE l i
    · rw [if_pos g]
      simp only []
      have := w87t l.length (by omega)
      rw [this]
      by_cases ht : tri l.length = true
      · rw [if_pos ht, if_pos ⟨ht, hA.1 g⟩]
      · rw [if_neg ht, if_neg (fun h => ht h.1)]
    · rw [if_neg g, if_neg (fun h => g (hA.2 h.2))]

end Go.Proofs.Ytdgibokmaannjaa
