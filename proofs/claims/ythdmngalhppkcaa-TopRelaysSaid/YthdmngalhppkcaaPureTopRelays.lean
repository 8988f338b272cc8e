/- TopRelays: what is to be shown of the readings. -/
import Derived.Test.YthdmngalhppkcaaM21
import Derived.KernelRfl
set_option linter.unusedVariables false
set_option linter.unusedSimpArgs false
namespace Go.Proofs.Ythdmngalhppkcaa
open Go Go.Pv Classical

section
variable {b : Bx}
theorem l18a (w : List Int) (A B S : Bx) {R : List Int} (hR : ∀ p ∈ R, inB b p) (hRl : R.length ≤ 6) (i : Int) : ∀ (k j : Nat) (c : Int), R.length - j < k → j ≤ R.length → 0 ≤ c → c ≤ 1000 →
    ∃ y, impll18_2 300 k w A B S R (kinds b) c i (j : Int) = some (if (∃ p ∈ R.drop j, kof b p = i) then c + 1 else c, y, ())
  | 0, j, c, h, _, _, _ => by omega
  | k + 1, j, c, h1, h2, h3, h4 => by
    rw [impll18_2, implb18_2]
    simp only [cdec]
    by_cases hlt : j < R.length
    · have hd := drop_getD (0 : Int) hlt
      have hm : R.getD j 0 ∈ R := getD_mem 0 hlt
      have hin := hR _ hm
      have i1 := hin.1
      have i2 := hin.2
      have hkl := kinds_len b
      have e : R.getD (j : Int).toNat 0 = R.getD j 0 := rfl
      have e2 : (kinds b).getD (R.getD j 0).toNat 0 = kof b (R.getD j 0) := rfl
      simp only [e]
      rw [if_pos (by omega), if_pos (by omega), if_pos (by omega), if_pos (by omega), if_pos (by omega), if_pos (by omega), if_pos (by omega), e2, hd]
      simp only [ibeq, cdec]
      by_cases g : kof b (R.getD j 0) = i
      · rw [if_pos g, if_pos ⟨R.getD j 0, List.mem_cons_self, g⟩, wrapI (by omega) (by omega)]
        exact ⟨_, rfl⟩
      · rw [if_neg g, wrapS (by omega)]
        obtain ⟨y, hy⟩ := l18a w A B S hR hRl i k (j + 1) c (by omega) (by omega) h3 h4
        refine ⟨y, hy.trans ?_⟩
        congr 2
        by_cases q : ∃ p ∈ R.drop (j + 1), kof b p = i
        · obtain ⟨p, hp, e⟩ := q
          rw [if_pos ⟨p, hp, e⟩, if_pos ⟨p, List.mem_cons_of_mem _ hp, e⟩]
        · rw [if_neg q, if_neg (fun ⟨p, hp, e⟩ => (List.mem_cons.1 hp).elim (fun h => g (h ▸ e)) fun h => q ⟨p, h, e⟩)]
    · have : j = R.length := by omega
      subst this
      rw [if_neg (by omega), List.drop_length, if_neg (by rintro ⟨p, hp, _⟩; cases hp)]
      exact ⟨_, rfl⟩
theorem l18b (w : List Int) (A B S : Bx) {R : List Int} (hR : ∀ p ∈ R, inB b p) (hRl : R.length ≤ 6) (hb6 : b.1.length ≤ 6) : ∀ (m k i : Nat) (c : Nat), i + m = b.1.length → m < k → c ≤ i →
    impll18_0 300 k w A B S R (kinds b) (c : Int) (i : Int) = some (((c + ((List.range' i m).filter fun (i : Nat) => decide (∃ p ∈ R, kof b p = (i : Int))).length : Nat) : Int), (b.1.length : Int), ())
  | m, 0, i, c, _, h, _ => by omega
  | 0, k + 1, i, c, h1, _, _ => by
    have hkl := kinds_len b
    rw [impll18_0, implb18_0]
    simp only [cdec]
    rw [if_neg (by omega)]
    have : i = b.1.length := by omega
    subst this
    simp
  | m + 1, k + 1, i, c, h1, h2, h3 => by
    have hkl := kinds_len b
    rw [impll18_0, implb18_0]
    simp only [cdec]
    obtain ⟨y, hy⟩ := l18a (b := b) w A B S hR hRl (i : Int) 300 0 (c : Int) (by omega) (by omega) (by omega) (by omega)
    have hy : impll18_2 300 300 w A B S R (kinds b) (c : Int) (i : Int) 0 = _ := hy
    rw [if_pos (by omega), hy, obS, wrapS (by omega), List.drop_zero, List.range'_succ, List.filter_cons]
    by_cases g : ∃ p ∈ R, kof b p = (i : Int)
    · rw [if_pos g, if_pos (decide_eq_true g)]
      have ih := l18b w A B S hR hRl hb6 m k (i + 1) (c + 1) (by omega) (by omega) (by omega)
      have ih : impll18_0 300 k w A B S R (kinds b) ((c : Int) + 1) (((i + 1 : Nat)) : Int) = _ := ih
      rw [ih, List.length_cons]
      congr 2
      omega
    · rw [if_neg g, if_neg (by rw [decide_eq_false g]; exact Bool.false_ne_true)]
      exact l18b w A B S hR hRl hb6 m k (i + 1) c (by omega) (by omega) (by omega)
theorem l18c (A B : Bx) (hv : V b) (he : sm b = b) {i : Nat} (hi : i < b.1.length) : ∀ (k j : Nat), i - j < k → j ≤ i → impll18_6 300 k A B b (i : Int) (j : Int) = some (.inl ((i : Int), ()))
  | 0, j, h, _ => by omega
  | k + 1, j, h1, h2 => by
    have h6 := hv.2.1
    rw [impll18_6, implb18_6]
    simp only [cdec]
    by_cases hlt : j < i
    · rw [if_pos (by omega), f48, obS, tight_tell hv he hi hlt, wrapS (by omega)]
      exact l18c A B hv he hi k (j + 1) (by omega) (by omega)
    · have : j = i := by omega
      subst this
      rw [if_neg (by omega)]
theorem l18d (A B : Bx) (hv : V b) (he : sm b = b) : ∀ (k i : Nat), b.1.length - i < k → i ≤ b.1.length → impll18_4 300 k A B b (i : Int) = some (.inl ((b.1.length : Int), ()))
  | 0, i, h, _ => by omega
  | k + 1, i, h1, h2 => by
    have h6 := hv.2.1
    have h22 := hv.2.2.1
    rw [impll18_4, implb18_4]
    simp only [cdec]
    by_cases hlt : i < b.1.length
    · have hc := l18c A B hv he hlt 300 0 (by omega) (by omega)
      have hc : impll18_6 300 300 A B b (i : Int) 0 = _ := hc
      obtain ⟨u, hu⟩ := tight_to hv he hlt
      rw [if_pos (by omega), hc, obS]
      simp only []
      rw [f56, obS, hu, wrapS (by omega)]
      exact l18d A B hv he k (i + 1) (by omega) (by omega)
    · have : i = b.1.length := by omega
      subst this
      rw [if_neg (by omega)]
end
theorem count8 : implf24 300 ([[0, 0]], [2]) 3 2 = some (8, 0) := by kernel_rfl

theorem coreTop (A B : Bx) (w : List Int) : implf18 300 A B w = some true := by
  unfold implf18
  have e1 : (((List.replicate 1 (List.replicate 2 (0 : Int))).set 0 (((List.replicate 2 (0 : Int)).set 0 0).set 1 0), (List.replicate 1 (0 : Int)).set 0 2) : Bx) = ([[0, 0]], [2]) := rfl
  have e0 : ((List.replicate 1 ([] : List Int)).set 0 w) = [w] := rfl
  rw [e1, count8, obS, e0, f19 300 A [w] (by simp) (by simp), f19 300 B [] (by simp) (by simp)]
  simp only [obS, bne_self_eq_false, cond_false]
  by_cases hl : lng A [w]
  · rw [decide_eq_true hl]; rfl
  · rw [decide_eq_false hl]
    by_cases hl2 : lng B []
    · rw [decide_eq_true hl2]; rfl
    · rw [decide_eq_false hl2, f50 A, f50 B]
      simp only [obS, cond_false]
      by_cases hA : V A
      · have eA : smc A = (sm A, 0) := by unfold smc; rw [if_pos hA]
        have eR : rchC A = (rch A, 0) := by unfold rchC; rw [if_pos hA]
        have eK : kc A = (kinds A, 0) := by unfold kc; rw [if_pos hA]
        have h6 := hA.2.1
        have hSv := v_sm hA
        have hS6 := hSv.2.1
        have hS2 := hSv.2.2.1
        have hA2 := hA.2.2.1
        have hkl := kinds_len A
        have hle := sm_le_rch hA
        have hRi : ∀ p ∈ rch A, inB A p := fun p hp => by
          obtain ⟨u, hu, rfl⟩ := (rch_mem hA p).1 hp
          exact en_in hA (zero_in hA) hu
        have hc := l18b (b := A) w A B (sm A) hRi (rch_len A hA) h6 A.1.length 300 0 0 (by omega) (by omega) (by omega)
        rw [sm_count hA] at hc
        have hc : impll18_0 300 300 w A B (sm A) (rch A) (kinds A) 0 0 = some (((0 + (sm A).1.length : Nat) : Int), (A.1.length : Int), ()) := hc
        have h4 := l18d A B hSv (sm_sm hA) 300 0 (by omega) (by omega)
        have h4 : impll18_4 300 300 A B (sm A) 0 = some (.inl (((sm A).1.length : Int), ())) := h4
        have hans : (if wc A w = 0 then (ans A w, (0 : Int)) else ([], wc A w)) = (if wc (sm A) w = 0 then (ans (sm A) w, (0 : Int)) else ([], wc (sm A) w)) := by
          have e : wc (sm A) w = wc A w := by unfold wc; rw [if_pos hA, if_pos hSv]
          rw [e]
          by_cases h : wc A w = 0
          · rw [if_pos h, if_pos h, ans_sm hA (wc_zero h).2.2]
          · rw [if_neg h, if_neg h]
        have hal : (if wc (sm A) w = 0 then (ans (sm A) w, (0 : Int)) else ([], wc (sm A) w)).1.length < 300 := by
          by_cases h : wc (sm A) w = 0
          · have := (wc_zero h).2.1
            rw [if_pos h]; simp [ans]; omega
          · rw [if_neg h]; simp
        rw [eA, f54, f21, eR, eK]
        simp only [obS, bne_self_eq_false, cond_false]
        have c1 : (((kinds A).length : Int) != (A.2.length : Int)) = false := by rw [hkl, hA2]; exact bne_self_eq_false _
        have c2 : decide (((sm A).2.length : Int) > ((rch A).length : Int)) = false := decide_eq_false (by omega)
        have c3 : ((((0 + (sm A).1.length : Nat) : Int)) != ((sm A).2.length : Int)) = false := by rw [hS2, Nat.zero_add]; exact bne_self_eq_false _
        rw [c1, c2, coreAnswers]
        simp only [obS, cond_false, Bool.not_true]
        rw [hc, f26 300 (by omega), f26 300 (by omega), hans]
        simp only [obS, c3, bne_self_eq_false, cond_false]
        rw [f23 300 _ _ hal (by omega)]
        simp only [obS, decide_true, Bool.not_true, cond_false]
        rw [h4]
        simp only [obS]
        by_cases hB : V B
        · have eB : smc B = (sm B, 0) := by unfold smc; rw [if_pos hB]
          have hTv := v_sm hB
          have hT6 := hTv.2.1
          have hT2 := hTv.2.2.1
          have et : tells A B = ((tell A B 0 0).1, (tell A B 0 0).2, 0) := by unfold tells; rw [if_pos ⟨hA, hB⟩]
          rw [eB, f52, f44, if_pos ⟨hA, hB⟩, et, told_alike hA hB]
          simp only [obS, bne_self_eq_false, cond_false]
          rw [f34 300 _ _ (by omega) (by omega) (by omega) (by omega), told_alike hA hB]
          have w1 : IntKind.i64.wrap (((sm A).2.length : Int) + ((sm B).2.length : Int)) = ((sm A).2.length : Int) + ((sm B).2.length : Int) := wrapI (by omega) (by omega)
          simp only [obS, w1]
          cases ht : (tell A B 0 0).2 with
          | false => rfl
          | true =>
            have hs := told_short hA hB ht
            show some (decide (((tell A B 0 0).1.length : Int) < ((sm A).2.length : Int) + ((sm B).2.length : Int))) = some true
            rw [decide_eq_true (by omega)]
        · have eB : smc B = (([], []), 1) := by unfold smc; rw [if_neg hB]
          rw [eB, f30 300 (by omega), if_neg hB]
          rfl
      · have eA : smc A = (([], []), 1) := by unfold smc; rw [if_neg hA]
        rw [eA, f30 300 (by omega), if_neg hA]
        rfl
theorem pureTopRelays : ∀ x, wfAll tl [25, 25, 23] x → ∃ k, implf18 k x.1 x.2.1 x.2.2.1 = some true := fun x _ => ⟨300, coreTop x.1 x.2.1 x.2.2.1⟩
end Go.Proofs.Ythdmngalhppkcaa
