/- Rosters. -/
import Derived.Test.YtbojnkcolamneaaM4
set_option linter.unusedVariables false
set_option linter.unusedSimpArgs false
namespace Go.Proofs.Ytbojnkcolamneaa
open Go Go.Pv Classical

/-- A loop that looks for the first place. -/
theorem uptoFind {σ ρ : Type} (l : Nat → σ → Option ρ) (s : Nat → σ) (n : Nat) (p : Nat → Prop) (r : ρ) (r' : Nat → ρ) (hs : ∀ k j, j < n → p j → l (k + 1) (s j) = l k (s (j + 1))) (hb : ∀ k j, j < n → ¬ p j → l (k + 1) (s j) = some (r' j))
    (he : ∀ k, l (k + 1) (s n) = some r) : ∀ k j, n - j < k → j ≤ n → (∃ i, j ≤ i ∧ i < n ∧ ¬ p i ∧ (∀ h, j ≤ h → h < i → p h) ∧ l k (s j) = some (r' i)) ∨ ((∀ i, j ≤ i → i < n → p i) ∧ l k (s j) = some r)
  | 0, j, hk, _ => by omega
  | k + 1, j, hk, hj => by
    by_cases h : j < n
    · by_cases g : p j
      · rw [hs k j h g]
        rcases uptoFind l s n p r r' hs hb he k (j + 1) (by omega) (by omega) with ⟨i, h1, h2, h3, h4, h5⟩ | ⟨h1, h2⟩
        · refine .inl ⟨i, by omega, h2, h3, fun x hx1 hx2 => ?_, h5⟩
          rcases Nat.lt_or_ge j x with h6 | h6
          · exact h4 x h6 hx2
          · have : x = j := by omega
            subst this; exact g
        · refine .inr ⟨fun i hi1 hi2 => ?_, h2⟩
          rcases Nat.lt_or_ge j i with h6 | h6
          · exact h1 i h6 hi2
          · have : i = j := by omega
            subst this; exact g
      · exact .inl ⟨j, Nat.le_refl _, h, g, fun x h1 h2 => by omega, hb k j h g⟩
    · have : j = n := by omega
      subst this
      exact .inr ⟨fun i h1 h2 => by omega, he k⟩

/-! ### Lists without twins -/
theorem nodup_sub : ∀ {a b : List Int}, a.Nodup → (∀ x ∈ a, x ∈ b) → a.length ≤ b.length
  | [], b, _, _ => Nat.zero_le _
  | x :: a, b, h, hs => by
    obtain ⟨h1, h2⟩ := List.nodup_cons.1 h
    have hx : x ∈ b := hs x (by simp)
    have := nodup_sub (b := b.erase x) h2 (fun y hy => by
      have hne : y ≠ x := fun e => h1 (e ▸ hy)
      exact (List.mem_erase_of_ne hne).2 (hs y (by simp [hy])))
    rw [List.length_erase_of_mem hx] at this
    have : 0 < b.length := List.length_pos_of_mem hx
    simp
    omega
theorem nodup_same {a b : List Int} (ha : a.Nodup) (hb : b.Nodup) (h : ∀ x, x ∈ a ↔ x ∈ b) : a.length = b.length :=
  Nat.le_antisymm (nodup_sub ha fun x hx => (h x).1 hx) (nodup_sub hb fun x hx => (h x).2 hx)

theorem cmpGo_props : ∀ (l : List Int) (p : Int), (p :: l).Pairwise (fun a b => a ≤ b) → (cmpGo p l).Pairwise (fun a b => a < b) ∧ (∀ x ∈ cmpGo p l, p < x ∧ x ∈ l) ∧ ∀ x ∈ l, x = p ∨ x ∈ cmpGo p l
  | [], p, _ => by simp [cmpGo]
  | y :: r, p, h => by
    obtain ⟨h1, h2⟩ := List.pairwise_cons.1 h
    rw [cmpGo]
    by_cases e : y = p
    · subst e
      rw [if_pos rfl]
      obtain ⟨g1, g2, g3⟩ := cmpGo_props r y h2
      refine ⟨g1, fun x hx => ⟨(g2 x hx).1, by simp [(g2 x hx).2]⟩, fun x hx => ?_⟩
      rcases List.mem_cons.1 hx with rfl | hx
      · exact .inl rfl
      · exact g3 x hx
    · rw [if_neg e]
      obtain ⟨g1, g2, g3⟩ := cmpGo_props r y h2
      have hpy : p < y := by have := h1 y (by simp); omega
      refine ⟨List.pairwise_cons.2 ⟨fun x hx => (g2 x hx).1, g1⟩, fun x hx => ?_, fun x hx => ?_⟩
      · rcases List.mem_cons.1 hx with rfl | hx
        · exact ⟨hpy, by simp⟩
        · exact ⟨by have := (g2 x hx).1; omega, by simp [(g2 x hx).2]⟩
      · rcases List.mem_cons.1 hx with rfl | hx
        · exact .inr (by simp)
        · rcases g3 x hx with rfl | h
          · exact .inr (by simp)
          · exact .inr (by simp [h])
theorem compact_props {l : List Int} (h : l.Pairwise (fun a b => a ≤ b)) : (compactI l).Nodup ∧ ∀ x, x ∈ compactI l ↔ x ∈ l := by
  cases l with
  | nil => simp [compactI]
  | cons p l =>
    obtain ⟨g1, g2, g3⟩ := cmpGo_props l p h
    rw [compactI]
    refine ⟨List.nodup_cons.2 ⟨fun hp => by have := (g2 p hp).1; omega, g1.imp fun h => by omega⟩, fun x => ?_⟩
    constructor
    · intro hx
      rcases List.mem_cons.1 hx with rfl | hx
      · simp
      · simp [(g2 x hx).2]
    · intro hx
      rcases List.mem_cons.1 hx with rfl | hx
      · simp
      · rcases g3 x hx with rfl | h
        · simp
        · simp [h]
theorem leI_sorted (l : List Int) : (isort leI l).Pairwise (fun a b => a ≤ b) :=
  (isort_sorted (le := leI) (fun a b c h1 h2 => by simp only [leI, decide_eq_true_eq] at *; omega) (fun a b => by simp only [leI, decide_eq_true_eq]; omega) l).imp fun h => by simpa [leI] using h

/-- The places of a list whose number is new. -/
def new (r : List Int) (i : Nat) : Prop := ∀ k, k < i → r.getD k 0 ≠ r.getD i 0
noncomputable def news (r : List Int) (m : Nat) : List Nat := (List.range m).filter fun i => decide (new r i)
theorem news_succ (r : List Int) (m : Nat) : (news r (m + 1)).length = (news r m).length + (if new r m then 1 else 0) := by
  unfold news
  rw [List.range_succ, List.filter_append, List.length_append]
  by_cases h : new r m <;> simp [h]
theorem news_le (r : List Int) (m : Nat) : (news r m).length ≤ m := by
  unfold news
  exact Nat.le_trans (List.length_filter_le _ _) (by simp)
/-- How many different numbers. -/
noncomputable def dif (r : List Int) : Nat := (news r r.length).length
theorem news_vals (r : List Int) : ((news r r.length).map fun i => r.getD i 0).Nodup ∧ ∀ x, x ∈ ((news r r.length).map fun i => r.getD i 0) ↔ x ∈ r := by
  constructor
  · rw [List.nodup_iff_pairwise_ne, List.pairwise_map]
    have h1 : (news r r.length).Pairwise (fun a b => a < b) := List.pairwise_lt_range.filter _
    refine List.Pairwise.imp_of_mem (fun {a b} ha hb hab => ?_) h1
    have hb := (List.mem_filter.1 hb).2
    exact (of_decide_eq_true hb : new r b) a hab
  · intro x
    constructor
    · intro h
      obtain ⟨i, hi, rfl⟩ := List.mem_map.1 h
      have := List.mem_range.1 (List.mem_filter.1 hi).1
      exact getD_mem 0 this
    · intro hx
      have key : ∀ n i, i < n → i < r.length → r.getD i 0 = x → ∃ j, j < r.length ∧ new r j ∧ r.getD j 0 = x := by
        intro n
        induction n with
        | zero => intro i h; omega
        | succ n ih =>
          intro i hin hi hix
          by_cases hn : new r i
          · exact ⟨i, hi, hn, hix⟩
          · have : ∃ k, k < i ∧ r.getD k 0 = r.getD i 0 := by
              apply Classical.byContradiction
              intro h
              exact hn fun k hk e => h ⟨k, hk, e⟩
            obtain ⟨k, hk, e⟩ := this
            exact ih k (by omega) (by omega) (e.trans hix)
      obtain ⟨i, hi, e⟩ := List.getElem_of_mem hx
      obtain ⟨j, h1, h2, h3⟩ := key (i + 1) i (by omega) hi (by simp [List.getD, hi, e])
      exact List.mem_map.2 ⟨j, List.mem_filter.2 ⟨List.mem_range.2 h1, decide_eq_true h2⟩, h3⟩
theorem dif_compact (r : List Int) : (compactI (isort leI r)).length = dif r := by
  obtain ⟨h1, h2⟩ := compact_props (leI_sorted r)
  obtain ⟨g1, g2⟩ := news_vals r
  have := nodup_same h1 g1 (fun x => by rw [h2, g2, (isort_perm (le := leI) r).mem_iff])
  rw [this, List.length_map]
  rfl

/-- Two shifts that overlap have one keeper. -/
def clash (l : List Shf) (r : List Int) (i j : Nat) : Prop := r.getD i 0 = r.getD j 0 ∧ ov (l.getD i z3) (l.getD j z3)
def fair (l : List Shf) (r : List Int) : Prop := ∀ i, i < l.length → ∀ j, j < i → ¬ clash l r i j
noncomputable def crr (l : List Shf) (r : List Int) : Int × Int :=
  if er l ≠ 0 then (0, er l) else if r.length ≠ l.length ∨ ¬ (∀ x ∈ r, 0 ≤ x ∧ x ≤ 11) then (0, 1) else if fair l r then ((dif r : Int), 0) else (0, 6)

theorem f78a (K : Nat) (r : List Int) (hr : r.length ≤ 1000) (hK : r.length < K) : ∃ v, implf78a K r () = some v ∧ (v ≥ 0 ↔ ¬ ∀ x ∈ r, 0 ≤ x ∧ x ≤ 11) := by
  unfold implf78a
  have := uptoFind (fun k (j : Nat) => impll78a_0 K k r () (r.length : Int) (j : Int)) (fun j => j) r.length (fun j => 0 ≤ r.getD j 0 ∧ r.getD j 0 ≤ 11) (.inl ((r.length : Int), ())) (fun j => .inr (j : Int))
    (fun k j hj hp => by
      show impll78a_0 K (k + 1) r () _ j = impll78a_0 K k r () _ ((j + 1 : Nat) : Int)
      rw [impll78a_0, implb78a_0]
      simp only [cdec, cnot, w60, obS]
      rw [if_pos (by omega), if_pos (by omega)]
      have e : r.getD (j : Int).toNat 0 = r.getD j 0 := rfl
      rw [e, if_pos hp, wrapS (by omega)])
    (fun k j hj hp => by
      show impll78a_0 K (k + 1) r () _ j = _
      rw [impll78a_0, implb78a_0]
      simp only [cdec, cnot, w60, obS]
      rw [if_pos (by omega), if_pos (by omega)]
      have e : r.getD (j : Int).toNat 0 = r.getD j 0 := rfl
      rw [e, if_neg hp])
    (fun k => by
      show impll78a_0 K (k + 1) r () _ r.length = _
      rw [impll78a_0, implb78a_0]
      simp only [cdec]
      rw [if_neg (by omega)]) K 0 (by omega) (Nat.zero_le _)
  have hq := all_getD (l := r) 0 (fun x => 0 ≤ x ∧ x ≤ 11)
  simp only [Int.natCast_zero] at this
  rcases this with ⟨i, h1, h2, h3, h4, h5⟩ | ⟨h1, h2⟩
  · rw [h5]
    refine ⟨_, rfl, ⟨fun _ h => h3 (hq.2 h i (Nat.zero_le _) h2), fun _ => by omega⟩⟩
  · rw [h2]
    refine ⟨_, rfl, ⟨fun h => absurd h (by decide), fun h => absurd (hq.1 h1) h⟩⟩

theorem l21_2 (K : Nat) (l : List Shf) (r : List Int) (hl : l.length ≤ 12) (hr : r.length = l.length) (hK : 12 < K) (i : Nat) (hi : i < l.length) (n : Int) :
    impll21_2 K K l r (i : Int) (l.getD i z3) l n (i : Int) (l.take i) ((l.take i).length : Int) 0 = some (if ∀ j, j < i → ¬ clash l r i j then .inl ((i : Int), ()) else .inr (0, 6, ())) := by
  have htl : (l.take i).length = i := by simp; omega
  rw [htl]
  have := uptoAll (fun k (j : Nat) => impll21_2 K k l r (i : Int) (l.getD i z3) l n (i : Int) (l.take i) (i : Int) (j : Int)) (fun j => j) i (fun j => ¬ clash l r i j) (.inl ((i : Int), ())) (.inr (0, 6, ()))
    (fun k j hj hp => by
      show impll21_2 K (k + 1) l r i (l.getD i z3) l n i (l.take i) i j = impll21_2 K k l r i (l.getD i z3) l n i (l.take i) i ((j + 1 : Nat) : Int)
      rw [impll21_2, implb21_2]
      simp only [cdec, f61, obS, ibeq]
      have e1 : r.getD (i : Int).toNat 0 = r.getD i 0 := rfl
      have e2 : r.getD (j : Int).toNat 0 = r.getD j 0 := rfl
      have e3 : (l.take i).getD (j : Int).toNat ((0 : Int), (0 : Int), (0 : Int)) = l.getD j z3 := by
        show (l.take i).getD j z3 = l.getD j z3
        simp [List.getD, List.getElem?_take, hj]
      rw [if_pos (by omega), if_pos (by rw [htl]; omega), if_pos (by omega), if_pos (by omega), e1, e2, e3, wrapS (by omega)]
      by_cases g : r.getD i 0 = r.getD j 0
      · rw [if_pos g, if_neg (fun h => hp ⟨g, h⟩)]
      · rw [if_neg g])
    (fun k j hj hp => by
      show impll21_2 K (k + 1) l r i (l.getD i z3) l n i (l.take i) i j = _
      rw [impll21_2, implb21_2]
      simp only [cdec, f61, obS, ibeq]
      have e1 : r.getD (i : Int).toNat 0 = r.getD i 0 := rfl
      have e2 : r.getD (j : Int).toNat 0 = r.getD j 0 := rfl
      have e3 : (l.take i).getD (j : Int).toNat ((0 : Int), (0 : Int), (0 : Int)) = l.getD j z3 := by
        show (l.take i).getD j z3 = l.getD j z3
        simp [List.getD, List.getElem?_take, hj]
      have hc : clash l r i j := Classical.not_not.1 hp
      rw [if_pos (by omega), if_pos (by rw [htl]; omega), if_pos (by omega), if_pos (by omega), e1, e2, e3, if_pos hc.1, if_pos hc.2])
    (fun k => by
      show impll21_2 K (k + 1) l r i (l.getD i z3) l n i (l.take i) i i = _
      rw [impll21_2, implb21_2]
      simp only [cdec]
      rw [if_neg (by omega)]) K 0 (by omega) (Nat.zero_le _)
  simp only [Int.natCast_zero] at this
  rw [this]
  congr 1
  have hq : (∀ j, 0 ≤ j → j < i → ¬ clash l r i j) ↔ ∀ j, j < i → ¬ clash l r i j := ⟨fun h j hj => h j (Nat.zero_le _) hj, fun h j _ hj => h j hj⟩
  by_cases h : ∀ j, j < i → ¬ clash l r i j
  · rw [if_pos h, if_pos (hq.2 h)]
  · rw [if_neg h, if_neg (fun g => h (hq.1 g))]

theorem l21_0 (K : Nat) (l : List Shf) (r : List Int) (hl : l.length ≤ 12) (hr : r.length = l.length) (hK : 12 < K) :
    impll21_0 K K l r l (l.length : Int) 0 = some (if fair l r then .inl ((l.length : Int), ()) else .inr (0, 6, ())) := by
  have := uptoAll (fun k (j : Nat) => impll21_0 K k l r l (l.length : Int) (j : Int)) (fun j => j) l.length (fun i => ∀ j, j < i → ¬ clash l r i j) (.inl ((l.length : Int), ())) (.inr (0, 6, ()))
    (fun k j hj hp => by
      show impll21_0 K (k + 1) l r l _ j = impll21_0 K k l r l _ ((j + 1 : Nat) : Int)
      rw [impll21_0, implb21_0]
      simp only [cdec]
      have e1 : l.getD (j : Int).toNat ((0 : Int), (0 : Int), (0 : Int)) = l.getD j z3 := rfl
      have e2 : l.take (j : Int).toNat = l.take j := rfl
      rw [if_pos (by omega), if_pos (by omega), if_pos (by omega), e1, e2, show Int.ofNat (l.take j).length = ((l.take j).length : Int) from rfl, l21_2 K l r hl hr hK j hj, if_pos hp, obS, wrapS (by omega)])
    (fun k j hj hp => by
      show impll21_0 K (k + 1) l r l _ j = _
      rw [impll21_0, implb21_0]
      simp only [cdec]
      have e1 : l.getD (j : Int).toNat ((0 : Int), (0 : Int), (0 : Int)) = l.getD j z3 := rfl
      have e2 : l.take (j : Int).toNat = l.take j := rfl
      rw [if_pos (by omega), if_pos (by omega), if_pos (by omega), e1, e2, show Int.ofNat (l.take j).length = ((l.take j).length : Int) from rfl, l21_2 K l r hl hr hK j hj, if_neg hp, obS])
    (fun k => by
      show impll21_0 K (k + 1) l r l _ l.length = _
      rw [impll21_0, implb21_0]
      simp only [cdec]
      rw [if_neg (by omega)]) K 0 (by omega) (Nat.zero_le _)
  simp only [Int.natCast_zero] at this
  rw [this]
  congr 1
  by_cases h : fair l r
  · rw [if_pos h, if_pos (fun i _ hi => h i hi)]
  · rw [if_neg h, if_neg (fun g => h fun i hi => g i (Nat.zero_le _) hi)]

theorem f21 (K : Nat) (hK : 101 < K) (l : List Shf) (hl : ∀ s ∈ l, inS s) (r : List Int) (hr : r.length ≤ 100) : implf21 K l r = some (crr l r) := by
  unfold implf21 crr
  rw [f31 K (by omega) l hl]
  simp only [obS, ibne, cdec, cnot]
  by_cases h : er l = 0
  · have hV := er_ok.1 h
    simp only [h, ne_eq, not_true_eq_false, if_false, if_true]
    by_cases g : r.length = l.length
    · rw [if_pos (by omega)]
      obtain ⟨v, h1, h2⟩ := f78a K r (by omega) (by omega)
      rw [h1, obS]
      by_cases q : ∀ x ∈ r, 0 ≤ x ∧ x ≤ 11
      · have hv : ¬ v ≥ 0 := fun hv => (h2.1 hv) q
        have hno : ¬ (¬ r.length = l.length ∨ ¬ ∀ x ∈ r, 0 ≤ x ∧ x ≤ 11) := by
          rintro (h3 | h3)
          · exact h3 g
          · exact h3 q
        rw [if_neg hv, l21_0 K l r hV.1 g (by omega), if_neg hno]
        simp only [obS]
        by_cases hf : fair l r
        · rw [if_pos hf, if_pos hf]
          simp only []
          unfold implf62 implf63 implf64
          simp only [List.replicate_zero, List.length_nil, List.nil_append, Nat.zero_add]
          rw [if_pos (by omega), obS, if_pos (by omega), obS, if_pos (by rw [(isort_perm (le := leI) r).length_eq]; omega), obS, dif_compact]
        · rw [if_neg hf, if_neg hf]
      · rw [if_pos (h2.2 q), if_pos (.inr q)]
    · rw [if_neg (by omega), if_pos (.inl g)]
  · simp only [h, ne_eq, not_false_eq_true, if_true, if_false]

theorem l22_4 (K : Nat) (l : List Shf) (r : List Int) (hV : V l) (hr : r.length = l.length) (hK : 12 < K) (i : Nat) (hi : i < l.length) (n : Int) :
    impll22_4 K K l r n (i : Int) 1 0 = some (if ∀ j, j < i → ¬ clash l r i j then .inl ((if new r i then 1 else 0), (i : Int), ()) else .inr (0, 6, ())) := by
  have hl := hV.1
  have := uptoAll (fun k (s : Int × Nat) => impll22_4 K k l r n (i : Int) s.1 (s.2 : Int)) (fun j => ((if ∀ q, q < j → r.getD q 0 ≠ r.getD i 0 then 1 else 0), j)) i (fun j => ¬ clash l r i j) (.inl ((if ∀ q, q < i → r.getD q 0 ≠ r.getD i 0 then 1 else 0), (i : Int), ())) (.inr (0, 6, ()))
    (fun k j hj hp => by
      show impll22_4 K (k + 1) l r n i _ j = impll22_4 K k l r n i _ ((j + 1 : Nat) : Int)
      rw [impll22_4, implb22_4]
      have e1 : r.getD (i : Int).toNat 0 = r.getD i 0 := rfl
      have e2 : r.getD (j : Int).toNat 0 = r.getD j 0 := rfl
      have e3 : l.getD (i : Int).toNat ((0 : Int), (0 : Int), (0 : Int)) = l.getD i z3 := rfl
      have e4 : l.getD (j : Int).toNat ((0 : Int), (0 : Int), (0 : Int)) = l.getD j z3 := rfl
      simp only [cdec, ibeq, e1, e2, e3, e4]
      rw [f66 K _ _ (hV.2 _ (getD_mem z3 hi)) (hV.2 _ (getD_mem z3 (by omega)))]
      simp only [obS, cdec]
      rw [if_pos (by omega), if_pos (by omega), if_pos (by omega), wrapS (by omega)]
      by_cases g : r.getD i 0 = r.getD j 0
      · rw [if_pos g, if_pos (by omega), if_pos (by omega), if_neg (fun h => hp ⟨g, h⟩), if_neg (fun h => h j (Nat.lt_succ_self j) g.symm)]
      · rw [if_neg g]
        congr 1
        by_cases q : ∀ q, q < j → r.getD q 0 ≠ r.getD i 0
        · rw [if_pos q, if_pos (fun x hx => by
            rcases Nat.lt_or_ge x j with h | h
            · exact q x h
            · have : x = j := by omega
              subst this; exact fun e => g e.symm)]
        · rw [if_neg q, if_neg (fun h => q fun x hx => h x (by omega))])
    (fun k j hj hp => by
      show impll22_4 K (k + 1) l r n i _ j = _
      rw [impll22_4, implb22_4]
      have e1 : r.getD (i : Int).toNat 0 = r.getD i 0 := rfl
      have e2 : r.getD (j : Int).toNat 0 = r.getD j 0 := rfl
      have e3 : l.getD (i : Int).toNat ((0 : Int), (0 : Int), (0 : Int)) = l.getD i z3 := rfl
      have e4 : l.getD (j : Int).toNat ((0 : Int), (0 : Int), (0 : Int)) = l.getD j z3 := rfl
      have hc : clash l r i j := Classical.not_not.1 hp
      simp only [cdec, ibeq, e1, e2, e3, e4]
      rw [f66 K _ _ (hV.2 _ (getD_mem z3 hi)) (hV.2 _ (getD_mem z3 (by omega)))]
      simp only [obS, cdec]
      rw [if_pos (by omega), if_pos (by omega), if_pos (by omega), if_pos hc.1, if_pos (by omega), if_pos (by omega), if_pos hc.2])
    (fun k => by
      show impll22_4 K (k + 1) l r n i _ i = _
      rw [impll22_4, implb22_4]
      simp only [cdec]
      rw [if_neg (by omega)]) K 0 (by omega) (Nat.zero_le _)
  have h0 : ∀ q : Nat, q < 0 → r.getD q 0 ≠ r.getD i 0 := fun q hq => by omega
  simp only [if_pos h0, Int.natCast_zero] at this
  rw [this]
  congr 1
  have hq : (∀ j, 0 ≤ j → j < i → ¬ clash l r i j) ↔ ∀ j, j < i → ¬ clash l r i j := ⟨fun h j hj => h j (Nat.zero_le _) hj, fun h j _ hj => h j hj⟩
  by_cases h : ∀ j, j < i → ¬ clash l r i j
  · rw [if_pos h, if_pos (hq.2 h)]
    by_cases hn : new r i
    · rw [if_pos hn, if_pos (show ∀ q, q < i → r.getD q 0 ≠ r.getD i 0 from hn)]
    · rw [if_neg hn, if_neg (show ¬ ∀ q, q < i → r.getD q 0 ≠ r.getD i 0 from hn)]
  · rw [if_neg h, if_neg (fun g => h (hq.1 g))]

theorem l22_2 (K : Nat) (l : List Shf) (r : List Int) (hV : V l) (hr : r.length = l.length) (hK : 12 < K) :
    impll22_2 K K l r 0 0 = some (if fair l r then .inl ((dif r : Int), (l.length : Int), ()) else .inr (0, 6, ())) := by
  have hl := hV.1
  have := uptoAll (fun k (s : Int × Nat) => impll22_2 K k l r s.1 (s.2 : Int)) (fun j => (((news r j).length : Int), j)) l.length (fun i => ∀ j, j < i → ¬ clash l r i j) (.inl (((news r l.length).length : Int), (l.length : Int), ())) (.inr (0, 6, ()))
    (fun k j hj hp => by
      show impll22_2 K (k + 1) l r _ j = impll22_2 K k l r _ ((j + 1 : Nat) : Int)
      rw [impll22_2, implb22_2]
      simp only [cdec]
      have hn := news_le r j
      rw [if_pos (by omega), l22_4 K l r hV hr hK j hj, if_pos hp, obS]
      simp only []
      rw [wrapS (by omega), news_succ]
      by_cases hw : new r j
      · rw [if_pos hw, if_pos hw, wrapI (by omega) (by omega)]
        rfl
      · rw [if_neg hw, if_neg hw, wrapI (by omega) (by omega)]
        simp)
    (fun k j hj hp => by
      show impll22_2 K (k + 1) l r _ j = _
      rw [impll22_2, implb22_2]
      simp only [cdec]
      rw [if_pos (by omega), l22_4 K l r hV hr hK j hj, if_neg hp, obS])
    (fun k => by
      show impll22_2 K (k + 1) l r _ l.length = _
      rw [impll22_2, implb22_2]
      simp only [cdec]
      rw [if_neg (by omega)]) K 0 (by omega) (Nat.zero_le _)
  have this : impll22_2 K K l r 0 0 = _ := this
  rw [this]
  congr 1
  by_cases h : fair l r
  · rw [if_pos h, if_pos (fun i _ hi => h i hi)]
    unfold dif
    rw [hr]
  · rw [if_neg h, if_neg (fun g => h fun i hi => g i (Nat.zero_le _) hi)]

theorem f22 (K : Nat) (hK : 101 < K) (l : List Shf) (r : List Int) (hr : r.length ≤ 100) : implf22 K l r = some (crr l r) := by
  unfold implf22 crr
  rw [f25 K (by omega) l]
  simp only [obS, ibne, cdec, cnot]
  by_cases h : er l = 0
  · have hV := er_ok.1 h
    simp only [h, ne_eq, not_true_eq_false, if_false, if_true]
    by_cases g : r.length = l.length
    · rw [if_pos (by omega)]
      have := uptoAll (fun k (j : Nat) => impll22_0 K k l r (j : Int)) (fun j => j) r.length (fun j => 0 ≤ r.getD j 0 ∧ r.getD j 0 ≤ 11) (.inl ((r.length : Int), ())) (.inr (0, 1, ()))
        (fun k j hj hp => by
          show impll22_0 K (k + 1) l r j = impll22_0 K k l r ((j + 1 : Nat) : Int)
          rw [impll22_0, implb22_0]
          simp only [cdec, cnot, w65, obS]
          have e : r.getD (j : Int).toNat 0 = r.getD j 0 := rfl
          rw [if_pos (by omega), if_pos (by omega), e, if_pos hp, wrapS (by omega)])
        (fun k j hj hp => by
          show impll22_0 K (k + 1) l r j = _
          rw [impll22_0, implb22_0]
          simp only [cdec, cnot, w65, obS]
          have e : r.getD (j : Int).toNat 0 = r.getD j 0 := rfl
          rw [if_pos (by omega), if_pos (by omega), e, if_neg hp])
        (fun k => by
          show impll22_0 K (k + 1) l r r.length = _
          rw [impll22_0, implb22_0]
          simp only [cdec]
          rw [if_neg (by omega)]) K 0 (by omega) (Nat.zero_le _)
      simp only [Int.natCast_zero] at this
      rw [this, obS]
      have hq := all_getD (l := r) 0 (fun x => 0 ≤ x ∧ x ≤ 11)
      by_cases q : ∀ x ∈ r, 0 ≤ x ∧ x ≤ 11
      · have hno : ¬ (¬ r.length = l.length ∨ ¬ ∀ x ∈ r, 0 ≤ x ∧ x ≤ 11) := by
          rintro (h3 | h3)
          · exact h3 g
          · exact h3 q
        rw [if_pos (hq.2 q), if_neg hno]
        simp only []
        rw [l22_2 K l r hV g (by omega), obS]
        by_cases hf : fair l r
        · rw [if_pos hf, if_pos hf]
        · rw [if_neg hf, if_neg hf]
      · rw [if_neg (fun x => q (hq.1 x)), if_pos (.inr q)]
    · rw [if_neg (by omega), if_pos (.inl g)]
  · simp only [h, ne_eq, not_false_eq_true, if_true, if_false]
theorem crr_ok {l : List Shf} {r : List Int} (h : (crr l r).2 = 0) : er l = 0 ∧ r.length = l.length ∧ (∀ x ∈ r, 0 ≤ x ∧ x ≤ 11) ∧ fair l r ∧ crr l r = ((dif r : Int), 0) := by
  unfold crr at h ⊢
  by_cases he : er l = 0
  · have hn : ¬ (er l ≠ 0) := fun x => x he
    rw [if_neg hn] at h ⊢
    by_cases q : r.length ≠ l.length ∨ ¬ (∀ x ∈ r, 0 ≤ x ∧ x ≤ 11)
    · rw [if_pos q] at h; cases h
    · rw [if_neg q] at h ⊢
      by_cases hf : fair l r
      · rw [if_pos hf]
        exact ⟨he, Classical.not_not.1 fun x => q (.inl x), Classical.not_not.1 fun x => q (.inr x), hf, rfl⟩
      · rw [if_neg hf] at h; cases h
  · rw [if_pos he] at h; exact absurd h he
end Go.Proofs.Ytbojnkcolamneaa
