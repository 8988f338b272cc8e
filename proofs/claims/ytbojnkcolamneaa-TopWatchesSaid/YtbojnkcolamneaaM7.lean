/- Sets of shifts that are alone, moments that look in on all. -/
import Derived.Test.YtbojnkcolamneaaM6
set_option linter.unusedVariables false
set_option linter.unusedSimpArgs false
namespace Go.Proofs.Ytbojnkcolamneaa
open Go Go.Pv Classical

theorem pw_getD {α : Type} (d : α) (R : α → α → Prop) : ∀ l : List α, l.Pairwise R ↔ ∀ j, j < l.length → ∀ i, i < j → R (l.getD i d) (l.getD j d) := by
  intro l
  rw [List.pairwise_iff_getElem]
  constructor
  · intro h j hj i hi
    have := h i j (by omega) hj hi
    simpa [List.getD, hj, (show i < l.length by omega)] using this
  · intro h i j hi hj hij
    have := h j hj i hij
    simpa [List.getD, hj, hi] using this

/-- A set of numbers. -/
def isSt (x : List Int) (hi : Int) : Prop := x.Pairwise (fun a b => a < b) ∧ ∀ a ∈ x, 0 ≤ a ∧ a ≤ hi
theorem isSt_iff (x : List Int) (hi : Int) : (∀ i, 0 ≤ i → i < x.length → (0 ≤ x.getD i 0 ∧ x.getD i 0 ≤ hi) ∧ (0 < i → x.getD (i - 1) 0 < x.getD i 0)) ↔ isSt x hi := by
  unfold isSt
  rw [pw_getD 0, ← all_getD 0 (fun a => 0 ≤ a ∧ a ≤ hi)]
  constructor
  · intro h
    refine ⟨fun j => ?_, fun i h0 h1 => (h i h0 h1).1⟩
    induction j with
    | zero => intro _ i hi; omega
    | succ j ih =>
      intro hj i hij
      have h1 := (h (j + 1) (by omega) hj).2 (by omega)
      rw [show j + 1 - 1 = j by omega] at h1
      by_cases e : i = j
      · subst e; exact h1
      · have := ih (by omega) i (by omega)
        omega
  · rintro ⟨h1, h2⟩ i h0 hi
    exact ⟨h2 i h0 hi, fun h => h1 i hi (i - 1) (by omega)⟩
theorem f73 (K : Nat) (x : List Int) (hK : x.length < K) (hx : x.length ≤ 1000) (hi : Int) : implf73 K x hi = some (decide (isSt x hi)) := by
  unfold implf73
  have := uptoAll (fun k (j : Nat) => impll73_0 K k x hi (j : Int)) (fun j => j) x.length (fun j => (0 ≤ x.getD j 0 ∧ x.getD j 0 ≤ hi) ∧ (0 < j → x.getD (j - 1) 0 < x.getD j 0)) (.inl ((x.length : Int), ())) (.inr false)
    (fun k j hj hp => by
      show impll73_0 K (k + 1) x hi j = impll73_0 K k x hi ((j + 1 : Nat) : Int)
      rw [impll73_0, implb73_0]
      have e : x.getD (j : Int).toNat 0 = x.getD j 0 := rfl
      simp only [cdec, cnot, e, w65, obS]
      rw [if_pos (by omega), if_pos (by omega), if_pos hp.1]
      by_cases g : (j : Int) > 0
      · have e2 : IntKind.i64.wrap ((j : Int) - 1) = ((j - 1 : Nat) : Int) := by rw [wrapI (by omega) (by omega)]; omega
        have e3 : x.getD ((j - 1 : Nat) : Int).toNat 0 = x.getD (j - 1) 0 := rfl
        rw [if_pos g, e2, if_pos (by omega), if_pos (by omega), e3, if_neg (by have := hp.2 (by omega); omega), wrapS (by omega)]
      · rw [if_neg g, wrapS (by omega)])
    (fun k j hj hp => by
      show impll73_0 K (k + 1) x hi j = _
      rw [impll73_0, implb73_0]
      have e : x.getD (j : Int).toNat 0 = x.getD j 0 := rfl
      simp only [cdec, cnot, e, w65, obS]
      rw [if_pos (by omega), if_pos (by omega)]
      by_cases h0 : 0 ≤ x.getD j 0 ∧ x.getD j 0 ≤ hi
      · rw [if_pos h0]
        have g : ¬ (0 < j → x.getD (j - 1) 0 < x.getD j 0) := fun g => hp ⟨h0, g⟩
        have g1 : 0 < j := by
          rcases Nat.eq_zero_or_pos j with z | z
          · exact absurd (fun q => by omega) g
          · exact z
        have g2 : x.getD (j - 1) 0 ≥ x.getD j 0 := by
          rcases ilt (x.getD (j - 1) 0) (x.getD j 0) with z | z
          · exact absurd (fun _ => z) g
          · exact z
        have e2 : IntKind.i64.wrap ((j : Int) - 1) = ((j - 1 : Nat) : Int) := by rw [wrapI (by omega) (by omega)]; omega
        have e3 : x.getD ((j - 1 : Nat) : Int).toNat 0 = x.getD (j - 1) 0 := rfl
        rw [if_pos (by omega), e2, if_pos (by omega), if_pos (by omega), e3, if_pos g2]
      · rw [if_neg h0])
    (fun k => by
      show impll73_0 K (k + 1) x hi x.length = _
      rw [impll73_0, implb73_0]
      simp only [cdec]
      rw [if_neg (by omega)]) K 0 (by omega) (Nat.zero_le _)
  simp only [Int.natCast_zero] at this
  rw [this, obS]
  by_cases h : isSt x hi
  · rw [if_pos ((isSt_iff x hi).2 h), decide_eq_true h]
  · rw [if_neg (fun g => h ((isSt_iff x hi).1 g)), decide_eq_false h]
theorem f86 (K : Nat) (x : List Int) (hK : x.length < K) (hx : x.length ≤ 1000) (hi : Int) : implf86 K x hi = some (decide (isSt x hi)) := by
  unfold implf86
  have := uptoAll (fun k (j : Nat) => impll86_0 K k x hi x (x.length : Int) (j : Int)) (fun j => j) x.length (fun j => (0 ≤ x.getD j 0 ∧ x.getD j 0 ≤ hi) ∧ (0 < j → x.getD (j - 1) 0 < x.getD j 0)) (.inl ((x.length : Int), ())) (.inr false)
    (fun k j hj hp => by
      show impll86_0 K (k + 1) x hi x _ j = impll86_0 K k x hi x _ ((j + 1 : Nat) : Int)
      rw [impll86_0, implb86_0]
      have e : x.getD (j : Int).toNat 0 = x.getD j 0 := rfl
      simp only [cdec, cnot, e, w60, obS]
      rw [if_pos (by omega), if_pos (by omega), if_pos hp.1]
      by_cases g : (j : Int) > 0
      · have e2 : IntKind.i64.wrap ((j : Int) - 1) = ((j - 1 : Nat) : Int) := by rw [wrapI (by omega) (by omega)]; omega
        have e3 : x.getD ((j - 1 : Nat) : Int).toNat 0 = x.getD (j - 1) 0 := rfl
        rw [if_pos g, e2, if_pos (by omega), e3, if_neg (by have := hp.2 (by omega); omega), wrapS (by omega)]
      · rw [if_neg g, wrapS (by omega)])
    (fun k j hj hp => by
      show impll86_0 K (k + 1) x hi x _ j = _
      rw [impll86_0, implb86_0]
      have e : x.getD (j : Int).toNat 0 = x.getD j 0 := rfl
      simp only [cdec, cnot, e, w60, obS]
      rw [if_pos (by omega), if_pos (by omega)]
      by_cases h0 : 0 ≤ x.getD j 0 ∧ x.getD j 0 ≤ hi
      · rw [if_pos h0]
        have g : ¬ (0 < j → x.getD (j - 1) 0 < x.getD j 0) := fun g => hp ⟨h0, g⟩
        have g1 : 0 < j := by
          rcases Nat.eq_zero_or_pos j with z | z
          · exact absurd (fun q => by omega) g
          · exact z
        have g2 : x.getD (j - 1) 0 ≥ x.getD j 0 := by
          rcases ilt (x.getD (j - 1) 0) (x.getD j 0) with z | z
          · exact absurd (fun _ => z) g
          · exact z
        have e2 : IntKind.i64.wrap ((j : Int) - 1) = ((j - 1 : Nat) : Int) := by rw [wrapI (by omega) (by omega)]; omega
        have e3 : x.getD ((j - 1 : Nat) : Int).toNat 0 = x.getD (j - 1) 0 := rfl
        rw [if_pos (by omega), e2, if_pos (by omega), e3, if_pos g2]
      · rw [if_neg h0])
    (fun k => by
      show impll86_0 K (k + 1) x hi x _ x.length = _
      rw [impll86_0, implb86_0]
      simp only [cdec]
      rw [if_neg (by omega)]) K 0 (by omega) (Nat.zero_le _)
  simp only [Int.natCast_zero] at this
  rw [this, obS]
  by_cases h : isSt x hi
  · rw [if_pos ((isSt_iff x hi).2 h), decide_eq_true h]
  · rw [if_neg (fun g => h ((isSt_iff x hi).1 g)), decide_eq_false h]

/-- The shift with a number. -/
def sh (l : List Shf) (i : Int) : Shf := l.getD i.toNat z3
/-- No two of the set overlap. -/
def alo (l : List Shf) (x : List Int) : Prop := x.Pairwise fun a b => ¬ ov (sh l b) (sh l a)
theorem sh_ok {l : List Shf} (hl : ∀ s ∈ l, okS s) {i : Int} (h : 0 ≤ i ∧ i < (l.length : Int)) : okS (sh l i) := hl _ (getD_mem z3 (by omega))
theorem f74 (K : Nat) (l : List Shf) (hl : ∀ s ∈ l, okS s) (x : List Int) (hx : ∀ a ∈ x, 0 ≤ a ∧ a < (l.length : Int)) (hK : x.length + 1 < K) (h1000 : x.length ≤ 1000) : implf74 K l x = some (decide (alo l x)) := by
  have hx' : ∀ j, j < x.length → 0 ≤ x.getD j 0 ∧ x.getD j 0 < (l.length : Int) := fun j hj => hx _ (getD_mem 0 hj)
  have inner : ∀ j : Nat, j < x.length → impll74_2 K K l x j 0 = some (if ∀ i, 0 ≤ i → i < j → ¬ ov (sh l (x.getD j 0)) (sh l (x.getD i 0)) then .inl ((j : Int), ()) else .inr false) := by
    intro j hj
    have := uptoAll (fun k (i : Nat) => impll74_2 K k l x (j : Int) (i : Int)) (fun i => i) j (fun i => ¬ ov (sh l (x.getD j 0)) (sh l (x.getD i 0))) (.inl ((j : Int), ())) (.inr false)
      (fun k i hi hp => by
        show impll74_2 K (k + 1) l x j i = impll74_2 K k l x j ((i + 1 : Nat) : Int)
        rw [impll74_2, implb74_2]
        have e : x.getD (j : Int).toNat 0 = x.getD j 0 := rfl
        have e' : x.getD (i : Int).toNat 0 = x.getD i 0 := rfl
        have h1 := hx' j hj
        have h2 := hx' i (by omega)
        simp only [cdec, e, e']
        rw [if_pos (by omega), if_pos (by omega), if_pos h1, if_pos (by omega), if_pos h2]
        rw [← show sh l (x.getD j 0) = l.getD (x.getD j 0).toNat (0, 0, 0) from rfl, ← show sh l (x.getD i 0) = l.getD (x.getD i 0).toNat (0, 0, 0) from rfl, f66 K _ _ (sh_ok hl h1) (sh_ok hl h2), obS, decide_eq_false hp]
        simp only [cond_false]
        rw [wrapS (by omega)])
      (fun k i hi hp => by
        show impll74_2 K (k + 1) l x j i = _
        rw [impll74_2, implb74_2]
        have e : x.getD (j : Int).toNat 0 = x.getD j 0 := rfl
        have e' : x.getD (i : Int).toNat 0 = x.getD i 0 := rfl
        have h1 := hx' j hj
        have h2 := hx' i (by omega)
        simp only [cdec, e, e']
        rw [if_pos (by omega), if_pos (by omega), if_pos h1, if_pos (by omega), if_pos h2]
        rw [← show sh l (x.getD j 0) = l.getD (x.getD j 0).toNat (0, 0, 0) from rfl, ← show sh l (x.getD i 0) = l.getD (x.getD i 0).toNat (0, 0, 0) from rfl, f66 K _ _ (sh_ok hl h1) (sh_ok hl h2), obS, decide_eq_true (Decidable.not_not.1 hp)]
        rfl)
      (fun k => by
        show impll74_2 K (k + 1) l x j j = _
        rw [impll74_2, implb74_2]
        simp only [cdec]
        rw [if_neg (by omega)]) K 0 (by omega) (Nat.zero_le _)
    exact this
  unfold implf74
  have := uptoAll (fun k (j : Nat) => impll74_0 K k l x (j : Int)) (fun j => j) x.length (fun j => ∀ i, 0 ≤ i → i < j → ¬ ov (sh l (x.getD j 0)) (sh l (x.getD i 0))) (.inl ((x.length : Int), ())) (.inr false)
    (fun k j hj hp => by
      show impll74_0 K (k + 1) l x j = impll74_0 K k l x ((j + 1 : Nat) : Int)
      rw [impll74_0, implb74_0]
      simp only [cdec]
      rw [if_pos (by omega), inner j hj, if_pos hp, obS]
      simp only []
      rw [wrapS (by omega)])
    (fun k j hj hp => by
      show impll74_0 K (k + 1) l x j = _
      rw [impll74_0, implb74_0]
      simp only [cdec]
      rw [if_pos (by omega), inner j hj, if_neg hp, obS])
    (fun k => by
      show impll74_0 K (k + 1) l x x.length = _
      rw [impll74_0, implb74_0]
      simp only [cdec]
      rw [if_neg (by omega)]) K 0 (by omega) (Nat.zero_le _)
  simp only [Int.natCast_zero] at this
  rw [this, obS]
  have hq : (∀ j, 0 ≤ j → j < x.length → ∀ i, 0 ≤ i → i < j → ¬ ov (sh l (x.getD j 0)) (sh l (x.getD i 0))) ↔ alo l x := by
    unfold alo
    rw [pw_getD 0]
    exact ⟨fun h j hj i hi => h j (Nat.zero_le _) hj i (Nat.zero_le _) hi, fun h j _ hj i _ hi => h j hj i hi⟩
  by_cases h : alo l x
  · rw [if_pos (hq.2 h), decide_eq_true h]
  · rw [if_neg (fun g => h (hq.1 g)), decide_eq_false h]

noncomputable def ca (l : List Shf) (x : List Int) : Int × Int :=
  if er l ≠ 0 then (0, er l) else if ¬ isSt x ((l.length : Int) - 1) then (0, 1) else if ¬ alo l x then (0, 6) else ((x.length : Int), 0)
theorem f26 (K : Nat) (hK : 102 < K) (l : List Shf) (x : List Int) (hx : x.length ≤ 100) : implf26 K l x = some (ca l x) := by
  unfold implf26 ca
  rw [f25 K (by omega) l]
  simp only [obS, ibne, cdec, cnot]
  by_cases h : er l = 0
  · have hV := er_ok.1 h
    have h12 := hV.1
    simp only [h, ne_eq, not_true_eq_false, if_false, if_true]
    rw [wrapI (by omega) (by omega), f73 K x (by omega) (by omega)]
    simp only [obS, cdec]
    by_cases g : isSt x ((l.length : Int) - 1)
    · rw [if_pos g, if_neg (fun q => q g), f74 K l hV.2 x (fun a ha => by have := g.2 a ha; omega) (by omega) (by omega)]
      simp only [obS, cdec]
      by_cases q : alo l x
      · rw [if_pos q, if_neg (fun z => z q)]
      · rw [if_neg q, if_pos q]
    · rw [if_neg g, if_pos g]
  · simp only [h, ne_eq, not_false_eq_true, if_true, if_false]
theorem f42 (K : Nat) (hK : 102 < K) (l : List Shf) (hl : ∀ s ∈ l, inS s) (x : List Int) (hx : x.length ≤ 100) : implf42 K l x = some (ca l x) := by
  unfold implf42 ca
  rw [f31 K (by omega) l hl]
  simp only [obS, ibne, cdec, cnot]
  by_cases h : er l = 0
  · have hV := er_ok.1 h
    have h12 := hV.1
    simp only [h, ne_eq, not_true_eq_false, if_false, if_true]
    rw [wrapI (by omega) (by omega), f86 K x (by omega) (by omega)]
    simp only [obS, cdec]
    by_cases g : isSt x ((l.length : Int) - 1)
    · rw [if_pos g, if_neg (fun q => q g)]
      have hx' : ∀ j, j < x.length → 0 ≤ x.getD j 0 ∧ x.getD j 0 < (l.length : Int) := fun j hj => by have := g.2 _ (getD_mem 0 hj); omega
      have inner : ∀ j : Nat, j < x.length → impll42_2 K K l x (x.getD j 0) x (x.length : Int) (j : Int) (List.take j x) (j : Int) 0 = some (if ∀ i, 0 ≤ i → i < j → ¬ ov (sh l (x.getD j 0)) (sh l (x.getD i 0)) then .inl ((j : Int), ()) else .inr (0, 6, ())) := by
        intro j hj
        have hlen : (List.take j x).length = j := by simp; omega
        have := uptoAll (fun k (i : Nat) => impll42_2 K k l x (x.getD j 0) x (x.length : Int) (j : Int) (List.take j x) (j : Int) (i : Int)) (fun i => i) j (fun i => ¬ ov (sh l (x.getD j 0)) (sh l (x.getD i 0))) (.inl ((j : Int), ())) (.inr (0, 6, ()))
          (fun k i hi hp => by
            show impll42_2 K (k + 1) l x (x.getD j 0) x _ j (List.take j x) j i = impll42_2 K k l x (x.getD j 0) x _ j (List.take j x) j ((i + 1 : Nat) : Int)
            rw [impll42_2, implb42_2]
            have e : (List.take j x).getD (i : Int).toNat 0 = x.getD i 0 := by
              show (List.take j x).getD i 0 = _
              simp [List.getD, List.getElem?_take, hi]
            have h1 := hx' j hj
            have h2 := hx' i (by omega)
            simp only [cdec, e, hlen]
            rw [if_pos (by omega), if_pos (by omega), if_pos h1, if_pos h2]
            rw [← show sh l (x.getD j 0) = l.getD (x.getD j 0).toNat (0, 0, 0) from rfl, ← show sh l (x.getD i 0) = l.getD (x.getD i 0).toNat (0, 0, 0) from rfl, f61 K, obS, decide_eq_false hp]
            simp only [cond_false]
            rw [wrapS (by omega)])
          (fun k i hi hp => by
            show impll42_2 K (k + 1) l x (x.getD j 0) x _ j (List.take j x) j i = _
            rw [impll42_2, implb42_2]
            have e : (List.take j x).getD (i : Int).toNat 0 = x.getD i 0 := by
              show (List.take j x).getD i 0 = _
              simp [List.getD, List.getElem?_take, hi]
            have h1 := hx' j hj
            have h2 := hx' i (by omega)
            simp only [cdec, e, hlen]
            rw [if_pos (by omega), if_pos (by omega), if_pos h1, if_pos h2]
            rw [← show sh l (x.getD j 0) = l.getD (x.getD j 0).toNat (0, 0, 0) from rfl, ← show sh l (x.getD i 0) = l.getD (x.getD i 0).toNat (0, 0, 0) from rfl, f61 K, obS, decide_eq_true (Decidable.not_not.1 hp)]
            rfl)
          (fun k => by
            show impll42_2 K (k + 1) l x (x.getD j 0) x _ j (List.take j x) j j = _
            rw [impll42_2, implb42_2]
            simp only [cdec]
            rw [if_neg (by omega)]) K 0 (by omega) (Nat.zero_le _)
        exact this
      have := uptoAll (fun k (j : Nat) => impll42_0 K k l x x (x.length : Int) (j : Int)) (fun j => j) x.length (fun j => ∀ i, 0 ≤ i → i < j → ¬ ov (sh l (x.getD j 0)) (sh l (x.getD i 0))) (.inl ((x.length : Int), ())) (.inr (0, 6, ()))
        (fun k j hj hp => by
          show impll42_0 K (k + 1) l x x _ j = impll42_0 K k l x x _ ((j + 1 : Nat) : Int)
          rw [impll42_0, implb42_0]
          have e : x.getD (j : Int).toNat 0 = x.getD j 0 := rfl
          have e2 : Int.ofNat (List.take (j : Int).toNat x).length = (j : Int) := by simp; omega
          simp only [cdec, e, e2]
          rw [if_pos (by omega), if_pos (by omega), if_pos (by omega)]
          have := inner j hj
          rw [if_pos hp] at this
          show ob (impll42_2 K K l x (x.getD j 0) x (x.length : Int) (j : Int) (List.take j x) (j : Int) 0) _ = _
          rw [this, obS]
          simp only []
          rw [wrapS (by omega)])
        (fun k j hj hp => by
          show impll42_0 K (k + 1) l x x _ j = _
          rw [impll42_0, implb42_0]
          have e : x.getD (j : Int).toNat 0 = x.getD j 0 := rfl
          have e2 : Int.ofNat (List.take (j : Int).toNat x).length = (j : Int) := by simp; omega
          simp only [cdec, e, e2]
          rw [if_pos (by omega), if_pos (by omega), if_pos (by omega)]
          have := inner j hj
          rw [if_neg hp] at this
          show ob (impll42_2 K K l x (x.getD j 0) x (x.length : Int) (j : Int) (List.take j x) (j : Int) 0) _ = _
          rw [this, obS])
        (fun k => by
          show impll42_0 K (k + 1) l x x _ x.length = _
          rw [impll42_0, implb42_0]
          simp only [cdec]
          rw [if_neg (by omega)]) K 0 (by omega) (Nat.zero_le _)
      simp only [Int.natCast_zero] at this
      rw [this, obS]
      have hq : (∀ j, 0 ≤ j → j < x.length → ∀ i, 0 ≤ i → i < j → ¬ ov (sh l (x.getD j 0)) (sh l (x.getD i 0))) ↔ alo l x := by
        unfold alo
        rw [pw_getD 0]
        exact ⟨fun h j hj i hi => h j (Nat.zero_le _) hj i (Nat.zero_le _) hi, fun h j _ hj i _ hi => h j hj i hi⟩
      by_cases q : alo l x
      · rw [if_pos (hq.2 q), if_neg (fun z => z q)]
      · rw [if_neg (fun z => q (hq.1 z)), if_pos q]
    · rw [if_neg g, if_pos g]
  · simp only [h, ne_eq, not_false_eq_true, if_true, if_false]

/-- The moments look in on all shifts. -/
def look (l : List Shf) (ms : List Int) : Prop := ∀ s ∈ l, ∃ m ∈ ms, rn s m
noncomputable def cm (l : List Shf) (ms : List Int) : Int × Int :=
  if er l ≠ 0 then (0, er l) else if ¬ isSt ms 1000 then (0, 1) else if ¬ look l ms then (0, 6) else ((ms.length : Int), 0)
theorem look_iff (l : List Shf) (ms : List Int) : (∀ i, 0 ≤ i → i < l.length → ∃ m ∈ ms, rn (l.getD i z3) m) ↔ look l ms := all_getD z3 (fun s => ∃ m ∈ ms, rn s m)
theorem any_getD {α : Type} {l : List α} (d : α) (p : α → Prop) : (∃ i, i < l.length ∧ p (l.getD i d)) ↔ ∃ s ∈ l, p s := by
  constructor
  · rintro ⟨i, hi, h⟩
    exact ⟨_, getD_mem d hi, h⟩
  · rintro ⟨s, hs, h⟩
    obtain ⟨i, hi, e⟩ := List.getElem_of_mem hs
    exact ⟨i, hi, by rwa [show l.getD i d = s by simp [List.getD, hi, e]]⟩
theorem f38 (K : Nat) (hK : 102 < K) (l : List Shf) (ms : List Int) (hm : ms.length ≤ 100) : implf38 K l ms = some (cm l ms) := by
  unfold implf38 cm
  rw [f25 K (by omega) l]
  simp only [obS, ibne, cdec, cnot]
  by_cases h : er l = 0
  · have hV := er_ok.1 h
    have h12 := hV.1
    simp only [h, ne_eq, not_true_eq_false, if_false, if_true]
    rw [f73 K ms (by omega) (by omega)]
    simp only [obS, cdec]
    by_cases g : isSt ms 1000
    · rw [if_pos g, if_neg (fun q => q g)]
      have inner : ∀ j : Nat, j < l.length → impll38_2 K K l ms j false 0 = some (decide (∃ m ∈ ms, rn (l.getD j z3) m), (ms.length : Int), ()) := by
        intro j hj
        have := foldTo (fun k i (t : Bool) => impll38_2 K k l ms (j : Int) t (i : Int)) ms 0 (fun t m => t || decide (rn (l.getD j z3) m)) (fun _ _ => True) (fun t => (t, (ms.length : Int), ()))
          (fun k i t hi _ => ⟨by
            show impll38_2 K (k + 1) l ms j t i = impll38_2 K k l ms j (t || decide (rn (l.getD j z3) (ms.getD i 0))) ((i + 1 : Nat) : Int)
            rw [impll38_2, implb38_2]
            have e : ms.getD (i : Int).toNat 0 = ms.getD i 0 := rfl
            have e2 : l.getD (j : Int).toNat ((0 : Int), (0 : Int), (0 : Int)) = l.getD j z3 := rfl
            simp only [cdec, e, e2, f83, obS]
            rw [if_pos (by omega), if_pos (by omega), if_pos (by omega), wrapS (by omega)]
            cases t <;> rfl, trivial⟩)
          (fun k t _ => by
            show impll38_2 K (k + 1) l ms j t ms.length = _
            rw [impll38_2, implb38_2]
            simp only [cdec]
            rw [if_neg (by omega)]) K 0 false (by omega) (Nat.zero_le _) trivial
        obtain ⟨this, -⟩ := this
        simp only [List.drop_zero] at this
        have this : impll38_2 K K l ms j false 0 = _ := this
        rw [this]
        have key : ∀ (ms : List Int) (b : Bool), ms.foldl (fun t m => t || decide (rn (l.getD j z3) m)) b = (b || decide (∃ m ∈ ms, rn (l.getD j z3) m)) := by
          intro ms
          induction ms with
          | nil => intro b; simp
          | cons m ms ih => intro b; rw [List.foldl_cons, ih]; simp [Bool.or_assoc]
        rw [key]
        simp
      have := uptoAll (fun k (j : Nat) => impll38_0 K k l ms (j : Int)) (fun j => j) l.length (fun j => ∃ m ∈ ms, rn (l.getD j z3) m) (.inl ((l.length : Int), ())) (.inr (0, 6, ()))
        (fun k j hj hp => by
          show impll38_0 K (k + 1) l ms j = impll38_0 K k l ms ((j + 1 : Nat) : Int)
          rw [impll38_0, implb38_0]
          simp only [cdec, cnot]
          rw [if_pos (by omega), inner j hj, obS]
          simp only [cdec]
          rw [if_pos hp, wrapS (by omega)])
        (fun k j hj hp => by
          show impll38_0 K (k + 1) l ms j = _
          rw [impll38_0, implb38_0]
          simp only [cdec, cnot]
          rw [if_pos (by omega), inner j hj, obS]
          simp only [cdec]
          rw [if_neg hp])
        (fun k => by
          show impll38_0 K (k + 1) l ms l.length = _
          rw [impll38_0, implb38_0]
          simp only [cdec]
          rw [if_neg (by omega)]) K 0 (by omega) (Nat.zero_le _)
      simp only [Int.natCast_zero] at this
      rw [this, obS]
      by_cases q : look l ms
      · rw [if_pos ((look_iff l ms).2 q), if_neg (fun z => z q)]
      · rw [if_neg (fun z => q ((look_iff l ms).1 z)), if_pos q]
    · rw [if_neg g, if_pos g]
  · simp only [h, ne_eq, not_false_eq_true, if_true, if_false]
theorem f78b (K : Nat) (ms : List Int) (hm : ms.length ≤ 100) (hK : 102 < K) (s : Shf) : ∃ v, implf78b K ms (s, ()) = some v ∧ (v ≥ 0 ↔ ∃ m ∈ ms, rn s m) := by
  unfold implf78b
  have := uptoFind (fun k (j : Nat) => impll78b_0 K k ms (s, ()) (ms.length : Int) (j : Int)) (fun j => j) ms.length (fun j => ¬ rn s (ms.getD j 0)) (.inl ((ms.length : Int), ())) (fun j => .inr (j : Int))
    (fun k j hj hp => by
      show impll78b_0 K (k + 1) ms (s, ()) _ j = impll78b_0 K k ms (s, ()) _ ((j + 1 : Nat) : Int)
      rw [impll78b_0, implb78b_0]
      have e : ms.getD (j : Int).toNat 0 = ms.getD j 0 := rfl
      simp only [cdec, e, f88, obS]
      rw [if_pos (by omega), if_pos (by omega), if_neg hp, wrapS (by omega)])
    (fun k j hj hp => by
      show impll78b_0 K (k + 1) ms (s, ()) _ j = _
      rw [impll78b_0, implb78b_0]
      have e : ms.getD (j : Int).toNat 0 = ms.getD j 0 := rfl
      simp only [cdec, e, f88, obS]
      rw [if_pos (by omega), if_pos (by omega), if_pos (Decidable.not_not.1 hp)])
    (fun k => by
      show impll78b_0 K (k + 1) ms (s, ()) _ ms.length = _
      rw [impll78b_0, implb78b_0]
      simp only [cdec]
      rw [if_neg (by omega)]) K 0 (by omega) (Nat.zero_le _)
  simp only [Int.natCast_zero] at this
  rcases this with ⟨i, h1, h2, h3, h4, h5⟩ | ⟨h1, h2⟩
  · refine ⟨(i : Int), ?_, ?_⟩
    · show ob (impll78b_0 K K ms (s, ()) (ms.length : Int) 0) _ = _
      rw [h5]
      rfl
    · exact ⟨fun _ => ⟨_, getD_mem 0 h2, Decidable.not_not.1 h3⟩, fun _ => by omega⟩
  · refine ⟨-1, ?_, ?_⟩
    · show ob (impll78b_0 K K ms (s, ()) (ms.length : Int) 0) _ = _
      rw [h2]
      rfl
    · refine ⟨fun h => absurd h (by omega), fun h => ?_⟩
      obtain ⟨i, hi, h3⟩ := (any_getD 0 (fun m => rn s m)).2 h
      exact absurd h3 (h1 i (Nat.zero_le _) hi)
theorem f43 (K : Nat) (hK : 102 < K) (l : List Shf) (hl : ∀ s ∈ l, inS s) (ms : List Int) (hm : ms.length ≤ 100) : implf43 K l ms = some (cm l ms) := by
  unfold implf43 cm
  rw [f31 K (by omega) l hl]
  simp only [obS, ibne, cdec, cnot]
  by_cases h : er l = 0
  · have hV := er_ok.1 h
    have h12 := hV.1
    simp only [h, ne_eq, not_true_eq_false, if_false, if_true]
    rw [f86 K ms (by omega) (by omega)]
    simp only [obS, cdec]
    by_cases g : isSt ms 1000
    · rw [if_pos g, if_neg (fun q => q g)]
      have := uptoAll (fun k (j : Nat) => impll43_0 K k ms l (l.length : Int) (j : Int)) (fun j => j) l.length (fun j => ∃ m ∈ ms, rn (l.getD j z3) m) (.inl ((l.length : Int), ())) (.inr (0, 6, ()))
        (fun k j hj hp => by
          show impll43_0 K (k + 1) ms l _ j = impll43_0 K k ms l _ ((j + 1 : Nat) : Int)
          rw [impll43_0, implb43_0]
          obtain ⟨v, h1, h2⟩ := f78b K ms hm hK (l.getD j z3)
          have e2 : l.getD (j : Int).toNat ((0 : Int), (0 : Int), (0 : Int)) = l.getD j z3 := rfl
          simp only [cdec, cnot, e2]
          rw [if_pos (by omega), if_pos (by omega), h1, obS, if_pos (h2.2 hp), wrapS (by omega)])
        (fun k j hj hp => by
          show impll43_0 K (k + 1) ms l _ j = _
          rw [impll43_0, implb43_0]
          obtain ⟨v, h1, h2⟩ := f78b K ms hm hK (l.getD j z3)
          have e2 : l.getD (j : Int).toNat ((0 : Int), (0 : Int), (0 : Int)) = l.getD j z3 := rfl
          simp only [cdec, cnot, e2]
          rw [if_pos (by omega), if_pos (by omega), h1, obS, if_neg (fun z => hp (h2.1 z))])
        (fun k => by
          show impll43_0 K (k + 1) ms l _ l.length = _
          rw [impll43_0, implb43_0]
          simp only [cdec]
          rw [if_neg (by omega)]) K 0 (by omega) (Nat.zero_le _)
      simp only [Int.natCast_zero] at this
      rw [this, obS]
      by_cases q : look l ms
      · rw [if_pos ((look_iff l ms).2 q), if_neg (fun z => z q)]
      · rw [if_neg (fun z => q ((look_iff l ms).1 z)), if_pos q]
    · rw [if_neg g, if_pos g]
  · simp only [h, ne_eq, not_false_eq_true, if_true, if_false]
end Go.Proofs.Ytbojnkcolamneaa
