/- Posts that pay all shifts. -/
import Derived.Test.YtbojnkcolamneaaM9
set_option linter.unusedVariables false
set_option linter.unusedSimpArgs false
namespace Go.Proofs.Ytbojnkcolamneaa
open Go Go.Pv Classical

/-- A loop over a list that may stop. -/
theorem foldAll {τ β ρ : Type} (l : Nat → Nat → τ → Option ρ) (ys : List β) (d : β) (f : τ → β → τ) (p : β → Prop) (I : Nat → τ → Prop) (r : τ → ρ) (r' : ρ)
    (hs : ∀ k j t, j < ys.length → I j t → p (ys.getD j d) → l (k + 1) j t = l k (j + 1) (f t (ys.getD j d)) ∧ I (j + 1) (f t (ys.getD j d)))
    (hb : ∀ k j t, j < ys.length → I j t → ¬ p (ys.getD j d) → l (k + 1) j t = some r')
    (he : ∀ k t, I ys.length t → l (k + 1) ys.length t = some (r t)) :
    ∀ k j t, ys.length - j < k → j ≤ ys.length → I j t → l k j t = some (if ∀ y ∈ ys.drop j, p y then r ((ys.drop j).foldl f t) else r')
  | 0, j, t, hk, _, _ => by omega
  | k + 1, j, t, hk, hj, hI => by
    by_cases h : j < ys.length
    · rw [drop_getD d h, List.foldl_cons]
      by_cases g : p (ys.getD j d)
      · obtain ⟨h1, h2⟩ := hs k j t h hI g
        rw [h1, foldAll l ys d f p I r r' hs hb he k (j + 1) _ (by omega) (by omega) h2]
        have : (∀ y ∈ ys.getD j d :: ys.drop (j + 1), p y) ↔ ∀ y ∈ ys.drop (j + 1), p y := by
          simp only [List.forall_mem_cons]
          exact ⟨fun q => q.2, fun q => ⟨g, q⟩⟩
        simp only [this]
      · rw [hb k j t h hI g, if_neg]
        intro q
        exact g (q _ (by simp))
    · have : j = ys.length := by omega
      subst this
      rw [List.drop_length, if_pos (by simp)]
      exact he k t hI

abbrev Pst := Int × Int
abbrev z2 : Pst := (0, 0)
/-- What posts pay a shift, and in all. -/
noncomputable def paid (s : Shf) : List Pst → Int
  | [] => 0
  | q :: p => (if rn s q.1 then q.2 else 0) + paid s p
def tot : List Pst → Int
  | [] => 0
  | q :: p => q.2 + tot p
def okP (p : List Pst) : Prop := ∀ q ∈ p, (0 ≤ q.1 ∧ q.1 ≤ 1000) ∧ 0 ≤ q.2 ∧ q.2 ≤ 1188
theorem paid_append (s : Shf) : ∀ x y, paid s (x ++ y) = paid s x + paid s y
  | [], y => by simp [paid]
  | a :: x, y => by rw [List.cons_append, paid, paid, paid_append s x y]; omega
theorem tot_append : ∀ x y, tot (x ++ y) = tot x + tot y
  | [], y => by simp [tot]
  | a :: x, y => by rw [List.cons_append, tot, tot, tot_append x y]; omega
theorem paid_nonneg (s : Shf) : ∀ x : List Pst, (∀ q ∈ x, 0 ≤ q.2) → 0 ≤ paid s x
  | [], _ => by simp [paid]
  | a :: x, h => by
    have := paid_nonneg s x fun q hq => h q (by simp [hq])
    have := h a (by simp)
    rw [paid]
    split <;> omega
theorem paid_all (s : Shf) : ∀ x : List Pst, (∀ q ∈ x, rn s q.1) → paid s x = tot x
  | [], _ => rfl
  | a :: x, h => by rw [paid, tot, if_pos (h a (by simp)), paid_all s x fun q hq => h q (by simp [hq])]
theorem paid_none (s : Shf) : ∀ x : List Pst, (∀ q ∈ x, ¬ rn s q.1) → paid s x = 0
  | [], _ => rfl
  | a :: x, h => by rw [paid, if_neg (h a (by simp)), paid_none s x fun q hq => h q (by simp [hq])]; rfl
theorem paid_fold (s : Shf) : ∀ (x : List Pst) (t : Int), x.foldl (fun t q => t + if rn s q.1 then q.2 else 0) t = t + paid s x
  | [], t => by simp [paid]
  | a :: x, t => by rw [List.foldl_cons, paid_fold s x, paid]; omega
theorem tot_fold : ∀ (x : List Pst) (t : Int), x.foldl (fun t q => t + q.2) t = t + tot x
  | [], t => by simp [tot]
  | a :: x, t => by rw [List.foldl_cons, tot_fold x, tot]; omega

theorem f85 (K : Nat) (hK : 12 < K) (s : Shf) {p : List Pst} (h12 : p.length ≤ 12) (hp : ∀ q ∈ p, 0 ≤ q.2 ∧ q.2 ≤ 1188) : implf85 K s p = some (paid s p) := by
  unfold implf85
  have := foldTo (fun k j (t : Int) => impll85_0 K k s t p (p.length : Int) (j : Int)) p z2 (fun t q => t + if rn s q.1 then q.2 else 0) (fun j t => 0 ≤ t ∧ t ≤ 1188 * j) (fun t => (t, (p.length : Int), ()))
    (fun k j t hj hI => by
      have h1 := hp _ (getD_mem z2 hj)
      constructor
      · show impll85_0 K (k + 1) s t p _ j = impll85_0 K k s (t + if rn s (p.getD j z2).1 then (p.getD j z2).2 else 0) p _ ((j + 1 : Nat) : Int)
        rw [impll85_0, implb85_0]
        have e : p.getD (j : Int).toNat ((0 : Int), (0 : Int)) = p.getD j z2 := rfl
        simp only [cdec, e, f88, obS]
        rw [if_pos (by omega), if_pos (by omega), wrapS (by omega)]
        by_cases g : rn s (p.getD j z2).1
        · rw [if_pos g, if_pos g, wrapI (by omega) (by omega)]
        · rw [if_neg g, if_neg g, Int.add_zero]
      · show 0 ≤ (t + if rn s (p.getD j z2).1 then (p.getD j z2).2 else 0) ∧ (t + if rn s (p.getD j z2).1 then (p.getD j z2).2 else 0) ≤ 1188 * ((j + 1 : Nat) : Int)
        split <;> omega)
    (fun k t _ => by
      show impll85_0 K (k + 1) s t p _ p.length = _
      rw [impll85_0, implb85_0]
      simp only [cdec]
      rw [if_neg (by omega)]) K 0 0 (by omega) (Nat.zero_le _) (by simp)
  obtain ⟨this, -⟩ := this
  simp only [List.drop_zero] at this
  have this : impll85_0 K K s 0 p (p.length : Int) 0 = _ := this
  rw [this, obS]
  show some (p.foldl _ 0) = _
  rw [paid_fold]
  congr 1
  omega
theorem l46_4 (K : Nat) (hK : 12 < K) (l : List Shf) {p : List Pst} (h12 : p.length ≤ 12) (hp : ∀ q ∈ p, 0 ≤ q.2 ∧ q.2 ≤ 1188) (w : Int) {i : Nat} (hi : i < l.length) : impll46_4 K K l p w (i : Int) 0 0 = some (paid (l.getD i z3) p, (p.length : Int), ()) := by
  have := foldTo (fun k j (t : Int) => impll46_4 K k l p w (i : Int) t (j : Int)) p z2 (fun t q => t + if rn (l.getD i z3) q.1 then q.2 else 0) (fun j t => 0 ≤ t ∧ t ≤ 1188 * j) (fun t => (t, (p.length : Int), ()))
    (fun k j t hj hI => by
      have h1 := hp _ (getD_mem z2 hj)
      constructor
      · show impll46_4 K (k + 1) l p w i t j = impll46_4 K k l p w i (t + if rn (l.getD i z3) (p.getD j z2).1 then (p.getD j z2).2 else 0) ((j + 1 : Nat) : Int)
        rw [impll46_4, implb46_4]
        have e : p.getD (j : Int).toNat ((0 : Int), (0 : Int)) = p.getD j z2 := rfl
        have e2 : l.getD (i : Int).toNat ((0 : Int), (0 : Int), (0 : Int)) = l.getD i z3 := rfl
        simp only [cdec, e, e2, f83, obS]
        rw [if_pos (by omega), if_pos (by omega), if_pos (by omega), wrapS (by omega)]
        by_cases g : rn (l.getD i z3) (p.getD j z2).1
        · rw [if_pos g, if_pos g, if_pos (by omega), wrapI (by omega) (by omega)]
        · rw [if_neg g, if_neg g, Int.add_zero]
      · show 0 ≤ (t + if rn (l.getD i z3) (p.getD j z2).1 then (p.getD j z2).2 else 0) ∧ (t + if rn (l.getD i z3) (p.getD j z2).1 then (p.getD j z2).2 else 0) ≤ 1188 * ((j + 1 : Nat) : Int)
        split <;> omega)
    (fun k t _ => by
      show impll46_4 K (k + 1) l p w i t p.length = _
      rw [impll46_4, implb46_4]
      simp only [cdec]
      rw [if_neg (by omega)]) K 0 0 (by omega) (Nat.zero_le _) (by simp)
  obtain ⟨this, -⟩ := this
  simp only [List.drop_zero] at this
  have this : impll46_4 K K l p w i 0 0 = _ := this
  rw [this, paid_fold, Int.zero_add]

/-- The posts pay all. -/
def pays (l : List Shf) (p : List Pst) : Prop := ∀ s ∈ l, s.2.2 ≤ paid s p
noncomputable def cp (l : List Shf) (p : List Pst) : Int × Int :=
  if er l ≠ 0 then (0, er l) else if 12 < p.length then (0, 3) else if ¬ okP p then (0, 1) else if ¬ pays l p then (0, 6) else (tot p, 0)
theorem pays_iff (l : List Shf) (p : List Pst) : (∀ i, 0 ≤ i → i < l.length → (l.getD i z3).2.2 ≤ paid (l.getD i z3) p) ↔ pays l p := all_getD z3 (fun s => s.2.2 ≤ paid s p)
theorem f46 (K : Nat) (hK : 12 < K) (l : List Shf) (p : List Pst) : implf46 K l p = some (cp l p) := by
  unfold implf46 cp
  rw [f25 K hK l]
  simp only [obS, ibne, cdec, cnot]
  by_cases h : er l = 0
  · have hV := er_ok.1 h
    have hl12 := hV.1
    simp only [h, ne_eq, not_true_eq_false, if_false, if_true]
    by_cases h12 : 12 < p.length
    · rw [if_pos (by omega), if_pos h12]
    · rw [if_neg (by omega), if_neg h12]
      have := foldAll (fun k j (t : Int) => impll46_0 K k l p t (j : Int)) p z2 (fun t q => t + q.2) (fun q => (0 ≤ q.1 ∧ q.1 ≤ 1000) ∧ 0 ≤ q.2 ∧ q.2 ≤ 1188) (fun j t => 0 ≤ t ∧ t ≤ 1188 * j) (fun t => .inl (t, (p.length : Int), ())) (.inr (0, 1, ()))
        (fun k j t hj hI hp => by
          constructor
          · show impll46_0 K (k + 1) l p t j = impll46_0 K k l p (t + (p.getD j z2).2) ((j + 1 : Nat) : Int)
            rw [impll46_0, implb46_0]
            have e : p.getD (j : Int).toNat ((0 : Int), (0 : Int)) = p.getD j z2 := rfl
            simp only [cdec, cnot, e, w65, obS]
            rw [if_pos (by omega), if_pos (by omega), if_pos hp.1, if_pos (by omega), if_pos hp.2, if_pos (by omega), wrapS (by omega), wrapI (by omega) (by omega)]
          · show 0 ≤ t + (p.getD j z2).2 ∧ t + (p.getD j z2).2 ≤ 1188 * ((j + 1 : Nat) : Int)
            omega)
        (fun k j t hj hI hp => by
          show impll46_0 K (k + 1) l p t j = _
          rw [impll46_0, implb46_0]
          have e : p.getD (j : Int).toNat ((0 : Int), (0 : Int)) = p.getD j z2 := rfl
          simp only [cdec, cnot, e, w65, obS]
          rw [if_pos (by omega), if_pos (by omega)]
          by_cases g : 0 ≤ (p.getD j z2).1 ∧ (p.getD j z2).1 ≤ 1000
          · rw [if_pos g, if_pos (by omega), if_neg (fun z => hp ⟨g, z⟩)]
          · rw [if_neg g])
        (fun k t _ => by
          show impll46_0 K (k + 1) l p t p.length = _
          rw [impll46_0, implb46_0]
          simp only [cdec]
          rw [if_neg (by omega)]) K 0 0 (by omega) (Nat.zero_le _) (by simp)
      simp only [List.drop_zero] at this
      have this : impll46_0 K K l p 0 0 = _ := this
      rw [this, obS]
      by_cases ho : okP p
      · rw [if_pos (show (∀ q ∈ p, (0 ≤ q.1 ∧ q.1 ≤ 1000) ∧ 0 ≤ q.2 ∧ q.2 ≤ 1188) from ho), if_neg (fun z => z ho)]
        simp only []
        rw [tot_fold, Int.zero_add]
        have := uptoAll (fun k (j : Nat) => impll46_2 K k l p (tot p) (j : Int)) (fun j => j) l.length (fun j => (l.getD j z3).2.2 ≤ paid (l.getD j z3) p) (.inl ((l.length : Int), ())) (.inr (0, 6, ()))
          (fun k j hj hp => by
            show impll46_2 K (k + 1) l p (tot p) j = impll46_2 K k l p (tot p) ((j + 1 : Nat) : Int)
            rw [impll46_2, implb46_2]
            have e2 : l.getD (j : Int).toNat ((0 : Int), (0 : Int), (0 : Int)) = l.getD j z3 := rfl
            simp only [cdec, e2]
            rw [if_pos (by omega), l46_4 K hK l (by omega) (fun q hq => (ho q hq).2) _ hj, obS, if_pos (by omega), if_neg (by omega), wrapS (by omega)])
          (fun k j hj hp => by
            show impll46_2 K (k + 1) l p (tot p) j = _
            rw [impll46_2, implb46_2]
            have e2 : l.getD (j : Int).toNat ((0 : Int), (0 : Int), (0 : Int)) = l.getD j z3 := rfl
            simp only [cdec, e2]
            rw [if_pos (by omega), l46_4 K hK l (by omega) (fun q hq => (ho q hq).2) _ hj, obS, if_pos (by omega), if_pos (by omega)])
          (fun k => by
            show impll46_2 K (k + 1) l p (tot p) l.length = _
            rw [impll46_2, implb46_2]
            simp only [cdec]
            rw [if_neg (by omega)]) K 0 (by omega) (Nat.zero_le _)
        simp only [Int.natCast_zero] at this
        rw [this, obS]
        by_cases q : pays l p
        · rw [if_pos ((pays_iff l p).2 q), if_neg (fun z => z q)]
        · rw [if_neg (fun z => q ((pays_iff l p).1 z)), if_pos q]
      · rw [if_neg (show ¬ (∀ q ∈ p, (0 ≤ q.1 ∧ q.1 ≤ 1000) ∧ 0 ≤ q.2 ∧ q.2 ≤ 1188) from ho), if_pos ho]
  · simp only [h, ne_eq, not_false_eq_true, if_true, if_false]
theorem f44 (K : Nat) (hK : 12 < K) (l : List Shf) (hl : ∀ s ∈ l, inS s) (p : List Pst) : implf44 K l p = some (cp l p) := by
  unfold implf44 cp
  rw [f31 K hK l hl]
  simp only [obS, ibne, cdec, cnot]
  by_cases h : er l = 0
  · have hV := er_ok.1 h
    have hl12 := hV.1
    simp only [h, ne_eq, not_true_eq_false, if_false, if_true]
    by_cases h12 : 12 < p.length
    · rw [if_pos (by omega), if_pos h12]
    · rw [if_neg (by omega), if_neg h12]
      have := foldAll (fun k j (t : Int) => impll44_0 K k l p t p (p.length : Int) (j : Int)) p z2 (fun t q => t + q.2) (fun q => (0 ≤ q.1 ∧ q.1 ≤ 1000) ∧ 0 ≤ q.2 ∧ q.2 ≤ 1188) (fun j t => 0 ≤ t ∧ t ≤ 1188 * j) (fun t => .inl (t, (p.length : Int), ())) (.inr (0, 1, ()))
        (fun k j t hj hI hp => by
          constructor
          · show impll44_0 K (k + 1) l p t p _ j = impll44_0 K k l p (t + (p.getD j z2).2) p _ ((j + 1 : Nat) : Int)
            rw [impll44_0, implb44_0]
            have e : p.getD (j : Int).toNat ((0 : Int), (0 : Int)) = p.getD j z2 := rfl
            simp only [cdec, cnot, e, w60, obS]
            rw [if_pos (by omega), if_pos (by omega), if_pos hp.1, if_pos hp.2, wrapS (by omega), wrapI (by omega) (by omega)]
          · show 0 ≤ t + (p.getD j z2).2 ∧ t + (p.getD j z2).2 ≤ 1188 * ((j + 1 : Nat) : Int)
            omega)
        (fun k j t hj hI hp => by
          show impll44_0 K (k + 1) l p t p _ j = _
          rw [impll44_0, implb44_0]
          have e : p.getD (j : Int).toNat ((0 : Int), (0 : Int)) = p.getD j z2 := rfl
          simp only [cdec, cnot, e, w60, obS]
          rw [if_pos (by omega), if_pos (by omega)]
          by_cases g : 0 ≤ (p.getD j z2).1 ∧ (p.getD j z2).1 ≤ 1000
          · rw [if_pos g, if_neg (fun z => hp ⟨g, z⟩)]
          · rw [if_neg g])
        (fun k t _ => by
          show impll44_0 K (k + 1) l p t p _ p.length = _
          rw [impll44_0, implb44_0]
          simp only [cdec]
          rw [if_neg (by omega)]) K 0 0 (by omega) (Nat.zero_le _) (by simp)
      simp only [List.drop_zero] at this
      have this : impll44_0 K K l p 0 p (p.length : Int) 0 = _ := this
      rw [this, obS]
      by_cases ho : okP p
      · rw [if_pos (show (∀ q ∈ p, (0 ≤ q.1 ∧ q.1 ≤ 1000) ∧ 0 ≤ q.2 ∧ q.2 ≤ 1188) from ho), if_neg (fun z => z ho)]
        simp only []
        rw [tot_fold, Int.zero_add]
        have := uptoAll (fun k (j : Nat) => impll44_2 K k p (tot p) l (l.length : Int) (j : Int)) (fun j => j) l.length (fun j => (l.getD j z3).2.2 ≤ paid (l.getD j z3) p) (.inl ((l.length : Int), ())) (.inr (0, 6, ()))
          (fun k j hj hp => by
            show impll44_2 K (k + 1) p (tot p) l _ j = impll44_2 K k p (tot p) l _ ((j + 1 : Nat) : Int)
            rw [impll44_2, implb44_2]
            have e2 : l.getD (j : Int).toNat ((0 : Int), (0 : Int), (0 : Int)) = l.getD j z3 := rfl
            simp only [cdec, e2]
            rw [if_pos (by omega), if_pos (by omega), f85 K hK _ (by omega) (fun q hq => (ho q hq).2), obS, if_neg (by omega), wrapS (by omega)])
          (fun k j hj hp => by
            show impll44_2 K (k + 1) p (tot p) l _ j = _
            rw [impll44_2, implb44_2]
            have e2 : l.getD (j : Int).toNat ((0 : Int), (0 : Int), (0 : Int)) = l.getD j z3 := rfl
            simp only [cdec, e2]
            rw [if_pos (by omega), if_pos (by omega), f85 K hK _ (by omega) (fun q hq => (ho q hq).2), obS, if_pos (by omega)])
          (fun k => by
            show impll44_2 K (k + 1) p (tot p) l _ l.length = _
            rw [impll44_2, implb44_2]
            simp only [cdec]
            rw [if_neg (by omega)]) K 0 (by omega) (Nat.zero_le _)
        simp only [Int.natCast_zero] at this
        rw [this, obS]
        by_cases q : pays l p
        · rw [if_pos ((pays_iff l p).2 q), if_neg (fun z => z q)]
        · rw [if_neg (fun z => q ((pays_iff l p).1 z)), if_pos q]
      · rw [if_neg (show ¬ (∀ q ∈ p, (0 ≤ q.1 ∧ q.1 ≤ 1000) ∧ 0 ≤ q.2 ∧ q.2 ≤ 1188) from ho), if_pos ho]
  · simp only [h, ne_eq, not_false_eq_true, if_true, if_false]
theorem cp_pays {l : List Shf} (he : er l = 0) {p : List Pst} (h : p.length ≤ 12) (h2 : okP p) (h3 : pays l p) : cp l p = (tot p, 0) := by
  unfold cp
  rw [if_neg (fun g => g he), if_neg (by omega), if_neg (fun g => g h2), if_neg (fun g => g h3)]
theorem cp_inv {l : List Shf} {p : List Pst} (h : (cp l p).2 = 0) : er l = 0 ∧ okP p ∧ pays l p ∧ (cp l p).1 = tot p := by
  unfold cp at h ⊢
  split at h
  · next g => exact absurd h g
  · next g =>
    split at h
    · cases h
    · next g1 =>
      split at h
      · cases h
      · next g2 =>
        split at h
        · cases h
        · next g3 =>
          rw [if_neg g, if_neg g1, if_neg g2, if_neg g3]
          exact ⟨Decidable.not_not.1 g, Decidable.not_not.1 g2, Decidable.not_not.1 g3, rfl⟩

/-! ### No set that is alone earns more than the posts pay -/
noncomputable def sumPaid (l : List Shf) (p : List Pst) : List Int → Int
  | [] => 0
  | a :: x => paid (sh l a) p + sumPaid l p x
noncomputable def ones (l : List Shf) (q : Pst) : List Int → Int
  | [] => 0
  | a :: x => (if rn (sh l a) q.1 then q.2 else 0) + ones l q x
theorem ones_zero (l : List Shf) (q : Pst) : ∀ x : List Int, (∀ a ∈ x, ¬ rn (sh l a) q.1) → ones l q x = 0
  | [], _ => rfl
  | a :: x, h => by rw [ones, if_neg (h a (by simp)), ones_zero l q x fun b hb => h b (by simp [hb])]; rfl
theorem ones_le {l : List Shf} (hl : ∀ s ∈ l, okS s) {q : Pst} (hq : 0 ≤ q.2) : ∀ x : List Int, alo l x → (∀ a ∈ x, 0 ≤ a ∧ a < (l.length : Int)) → ones l q x ≤ q.2
  | [], _, _ => hq
  | a :: x, h, hx => by
    obtain ⟨h1, h2⟩ := List.pairwise_cons.1 h
    rw [ones]
    by_cases g : rn (sh l a) q.1
    · rw [if_pos g, ones_zero l q x fun b hb r => h1 b hb ((ov_iff (sh_ok hl (hx b (by simp [hb]))) (sh_ok hl (hx a (by simp)))).2 ⟨q.1, r, g⟩)]
      omega
    · rw [if_neg g]
      have := ones_le hl hq x h2 fun b hb => hx b (by simp [hb])
      omega
theorem sumPaid_cons (l : List Shf) (q : Pst) (p : List Pst) : ∀ x, sumPaid l (q :: p) x = ones l q x + sumPaid l p x
  | [] => rfl
  | a :: x => by rw [sumPaid, sumPaid, ones, sumPaid_cons l q p x, paid]; omega
theorem sumPaid_nil (l : List Shf) : ∀ x, sumPaid l [] x = 0
  | [] => rfl
  | a :: x => by rw [sumPaid, sumPaid_nil l x]; rfl
theorem sumPaid_le {l : List Shf} (hl : ∀ s ∈ l, okS s) {x : List Int} (ha : alo l x) (hx : ∀ a ∈ x, 0 ≤ a ∧ a < (l.length : Int)) : ∀ p : List Pst, (∀ q ∈ p, 0 ≤ q.2) → sumPaid l p x ≤ tot p
  | [], _ => by rw [sumPaid_nil]; exact Int.le_refl _
  | q :: p, h => by
    have h1 := sumPaid_le hl ha hx p fun r hr => h r (by simp [hr])
    have h2 := ones_le hl (h q (by simp)) x ha hx
    rw [sumPaid_cons, tot]
    omega
theorem pay_sumPaid {l : List Shf} {p : List Pst} (h : pays l p) : ∀ x : List Int, (∀ a ∈ x, 0 ≤ a ∧ a < (l.length : Int)) → pay l x ≤ sumPaid l p x
  | [], _ => Int.le_refl _
  | a :: x, hx => by
    have h1 := pay_sumPaid h x fun b hb => hx b (by simp [hb])
    have h2 := h (sh l a) (getD_mem z3 (by have := hx a (by simp); omega))
    rw [pay, sumPaid]
    omega
theorem isAl_in {l : List Shf} {x : List Int} (h : isAl l x) : ∀ a ∈ x, 0 ≤ a ∧ a < (l.length : Int) := fun a ha => by have := h.1.2 a ha; omega
theorem pay_tot {l : List Shf} (hl : ∀ s ∈ l, okS s) {x : List Int} {p : List Pst} (hx : isAl l x) (hp : pays l p) (ho : ∀ q ∈ p, 0 ≤ q.2) : pay l x ≤ tot p :=
  Int.le_trans (pay_sumPaid hp x (isAl_in hx)) (sumPaid_le hl hx.2 (isAl_in hx) p ho)
end Go.Proofs.Ytbojnkcolamneaa
