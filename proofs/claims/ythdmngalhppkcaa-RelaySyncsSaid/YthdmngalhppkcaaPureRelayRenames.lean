/- RelayRenames: what is to be shown of the readings. -/
import Derived.Test.YthdmngalhppkcaaM5
set_option linter.unusedVariables false
set_option linter.unusedSimpArgs false
namespace Go.Proofs.Ythdmngalhppkcaa
open Go Go.Pv Classical

/-- Every number below n is there. -/
def full (n : Nat) (t : List Int) : Prop := ∀ i : Nat, i < n → (i : Int) ∈ t

theorem pig : ∀ (n : Nat) (t : List Int), t.length = n → full n t → t.Perm (ids n)
  | 0, t, hl, _ => by
    have : t = [] := List.eq_nil_of_length_eq_zero hl
    subst this; exact List.Perm.refl _
  | n + 1, t, hl, hf => by
    have hm : (n : Int) ∈ t := hf n (by omega)
    have h1 := List.perm_cons_erase hm
    have hl2 : (t.erase (n : Int)).length = n := by rw [List.length_erase_of_mem hm]; omega
    have ih := pig n (t.erase (n : Int)) hl2 fun i hi => (List.mem_erase_of_ne (by omega)).2 (hf i (by omega))
    have e : ids (n + 1) = ids n ++ [(n : Int)] := by simp [ids, List.range_succ]
    rw [e]
    exact h1.trans ((List.Perm.cons _ ih).trans (List.perm_append_singleton _ _).symm)

theorem pig_num {n : Nat} {t : List Int} (hl : t.length = n) (hf : full n t) : num n t := by
  refine ⟨hl, fun x hx => ?_⟩
  have := (pig n t hl hf).mem_iff.1 hx
  obtain ⟨i, hi, rfl⟩ := List.mem_map.1 this
  have := List.mem_range.1 hi
  omega

theorem ids_nodup (n : Nat) : (ids n).Nodup := by
  unfold ids
  refine List.Pairwise.map _ ?_ List.nodup_range
  intro a b h h2
  exact h (by omega)

theorem pig_inj {n : Nat} {t : List Int} (hl : t.length = n) (hf : full n t) : inj n t := by
  have hn : t.Nodup := (pig n t hl hf).nodup_iff.2 (ids_nodup n)
  have hp := List.pairwise_iff_getElem.1 hn
  intro i j hi hj h
  have g : ∀ m : Nat, (h : m < n) → tt t m = t[m]'(by omega) := fun m hm => by
    show t.getD m 0 = _
    simp [List.getD, hl, hm]
  rw [g i hi, g j hj] at h
  rcases Nat.lt_trichotomy i j with h1 | h1 | h1
  · exact absurd h (hp i j _ _ h1)
  · exact h1
  · exact absurd h.symm (hp j i _ _ h1)

theorem pig_sur {n : Nat} {t : List Int} (hl : t.length = n) (hf : full n t) (i : Nat) (hi : i < n) : ∃ s : Int, (0 ≤ s ∧ s < (n : Int)) ∧ tt t s = i := by
  obtain ⟨m, hm, e⟩ := List.mem_iff_getElem.1 (hf i hi)
  refine ⟨m, by omega, ?_⟩
  show t.getD m 0 = _
  simp [List.getD, hm, e]

theorem f88 (K : Nat) (t : List Int) (x : Int) (hl : t.length ≤ 1000000) (hK : t.length < K) : ∃ m, implf88 K t x = some m ∧ (0 ≤ m ↔ x ∈ t) := by
  have key : ∀ k j, t.length - j < k → j ≤ t.length → impll88_0 K k t x t.length j = some (.inl ((t.length : Int), ())) ∧ x ∉ t.drop j ∨ ∃ m : Nat, impll88_0 K k t x t.length j = some (.inr (m : Int)) ∧ x ∈ t.drop j := by
    intro k
    induction k with
    | zero => intro j h; omega
    | succ k ih =>
      intro j hk hj
      rw [impll88_0, implb88_0]
      simp only [cdec, ibeq]
      by_cases hlt : j < t.length
      · have hd := drop_getD (0 : Int) hlt
        have e : t.getD (j : Int).toNat 0 = t.getD j 0 := rfl
        rw [if_pos (by omega), if_pos (by omega), e]
        by_cases h : x = t.getD j 0
        · rw [if_pos h]
          exact .inr ⟨j, rfl, by rw [hd, ← h]; exact List.mem_cons_self⟩
        · rw [if_neg h, wrapS (by omega)]
          rcases ih (j + 1) (by omega) (by omega) with ⟨h1, h2⟩ | ⟨m, h1, h2⟩
          · refine .inl ⟨h1, ?_⟩
            rw [hd]
            intro h3
            rcases List.mem_cons.1 h3 with h3 | h3
            · exact h h3
            · exact h2 h3
          · exact .inr ⟨m, h1, by rw [hd]; exact List.mem_cons_of_mem _ h2⟩
      · have : j = t.length := by omega
        subst this
        rw [if_neg (by omega)]
        exact .inl ⟨rfl, by simp⟩
  unfold implf88
  have h := key K 0 (by omega) (by omega)
  simp only [Int.natCast_zero, List.drop_zero] at h
  rcases h with ⟨h1, h2⟩ | ⟨m, h1, h2⟩
  · exact ⟨-1, by rw [h1]; rfl, by simp [h2]⟩
  · exact ⟨m, by rw [h1]; rfl, by simp [h2]⟩

theorem f75 (K : Nat) (t : List Int) (x : Int) (hl : t.length ≤ 1000000) (hK : t.length < K) : ∃ m, implf75 K t x = some m ∧ (0 ≤ m ↔ x ∈ t) := by
  have key : ∀ k j, t.length - j < k → j ≤ t.length → impll75_0 K k t x j = some (.inl ((t.length : Int), ())) ∧ x ∉ t.drop j ∨ ∃ m : Nat, impll75_0 K k t x j = some (.inr (m : Int)) ∧ x ∈ t.drop j := by
    intro k
    induction k with
    | zero => intro j h; omega
    | succ k ih =>
      intro j hk hj
      rw [impll75_0, implb75_0]
      simp only [cdec, ibeq]
      by_cases hlt : j < t.length
      · have hd := drop_getD (0 : Int) hlt
        have e : t.getD (j : Int).toNat 0 = t.getD j 0 := rfl
        rw [if_pos (by omega), if_pos (by omega), e]
        by_cases h : t.getD j 0 = x
        · rw [if_pos h]
          exact .inr ⟨j, rfl, by rw [hd, h]; exact List.mem_cons_self⟩
        · rw [if_neg h, wrapS (by omega)]
          rcases ih (j + 1) (by omega) (by omega) with ⟨h1, h2⟩ | ⟨m, h1, h2⟩
          · refine .inl ⟨h1, ?_⟩
            rw [hd]
            intro h3
            rcases List.mem_cons.1 h3 with h3 | h3
            · exact h h3.symm
            · exact h2 h3
          · exact .inr ⟨m, h1, by rw [hd]; exact List.mem_cons_of_mem _ h2⟩
      · have : j = t.length := by omega
        subst this
        rw [if_neg (by omega)]
        exact .inl ⟨rfl, by simp⟩
  unfold implf75
  have h := key K 0 (by omega) (by omega)
  simp only [Int.natCast_zero, List.drop_zero] at h
  rcases h with ⟨h1, h2⟩ | ⟨m, h1, h2⟩
  · exact ⟨-1, by rw [h1]; rfl, by simp [h2]⟩
  · exact ⟨m, by rw [h1]; rfl, by simp [h2]⟩

/-- The new numbers of a box's states: what is answered. -/
noncomputable def rnc (b : Bx) (t : List Int) : Bx × Int := if V b then (if t.length = b.1.length ∧ tt t 0 = 0 ∧ full t.length t then (rn b t, 0) else (([], []), 1)) else (([], []), 1)

theorem l42 (K : Nat) (hK : 10 ≤ K) (t : List Int) (b : Bx) (hl : t.length ≤ 6) : impll42_0 K K t b ([], []) t.length 0 = some (if full t.length t then .inl (([], []), (t.length : Int), ()) else .inr (([], []), 1, ())) := by
  have h := uptoAll (fun k (j : Int) => impll42_0 K k t b ([], []) t.length j) (fun j => (j : Int)) t.length (fun j => (j : Int) ∈ t) (.inl (([], []), (t.length : Int), ())) (.inr (([], []), 1, ()))
    (fun k j hj hp => by
      show impll42_0 K (k + 1) t b ([], []) t.length j = _
      rw [impll42_0, implb42_0]
      obtain ⟨m, h1, h2⟩ := f88 K t j (by omega) (by omega)
      simp only [cdec, cnot, h1, obS]
      rw [if_pos (by omega), if_pos (show m ≥ 0 from h2.2 hp), wrapS (by omega)])
    (fun k j hj hp => by
      show impll42_0 K (k + 1) t b ([], []) t.length j = _
      rw [impll42_0, implb42_0]
      obtain ⟨m, h1, h2⟩ := f88 K t j (by omega) (by omega)
      simp only [cdec, cnot, h1, obS]
      rw [if_pos (by omega), if_neg (show ¬ m ≥ 0 from fun h => hp (h2.1 h))])
    (fun k => by
      show impll42_0 K (k + 1) t b ([], []) t.length (t.length : Nat) = _
      rw [impll42_0, implb42_0]
      simp only [cdec]
      rw [if_neg (by omega)]) K 0 (by omega) (by omega)
  have h : impll42_0 K K t b ([], []) t.length 0 = _ := h
  rw [h]
  congr 1
  by_cases hf : full t.length t
  · rw [if_pos hf, if_pos (fun i _ hi => hf i hi)]
  · rw [if_neg hf, if_neg (fun g => hf fun i hi => g i (Nat.zero_le _) hi)]

theorem l43 (K : Nat) (hK : 10 ≤ K) (t : List Int) (b : Bx) (hl : t.length ≤ 6) : impll43_0 K K t b ([], []) 0 = some (if full t.length t then .inl (([], []), (t.length : Int), ()) else .inr (([], []), 1, ())) := by
  have h := uptoAll (fun k (j : Int) => impll43_0 K k t b ([], []) j) (fun j => (j : Int)) t.length (fun j => (j : Int) ∈ t) (.inl (([], []), (t.length : Int), ())) (.inr (([], []), 1, ()))
    (fun k j hj hp => by
      show impll43_0 K (k + 1) t b ([], []) j = _
      rw [impll43_0, implb43_0]
      obtain ⟨m, h1, h2⟩ := f75 K t j (by omega) (by omega)
      have h3 := h2.2 hp
      simp only [cdec, cnot, h1, obS]
      rw [if_pos (by omega), if_neg (by omega), wrapS (by omega)])
    (fun k j hj hp => by
      show impll43_0 K (k + 1) t b ([], []) j = _
      rw [impll43_0, implb43_0]
      obtain ⟨m, h1, h2⟩ := f75 K t j (by omega) (by omega)
      have h3 : ¬ 0 ≤ m := fun h => hp (h2.1 h)
      simp only [cdec, cnot, h1, obS]
      rw [if_pos (by omega), if_pos (by omega)])
    (fun k => by
      show impll43_0 K (k + 1) t b ([], []) (t.length : Nat) = _
      rw [impll43_0, implb43_0]
      simp only [cdec]
      rw [if_neg (by omega)]) K 0 (by omega) (by omega)
  have h : impll43_0 K K t b ([], []) 0 = _ := h
  rw [h]
  congr 1
  by_cases hf : full t.length t
  · rw [if_pos hf, if_pos (fun i _ hi => hf i hi)]
  · rw [if_neg hf, if_neg (fun g => hf fun i hi => g i (Nat.zero_le _) hi)]

theorem f42 (K : Nat) (hK : 10 ≤ K) (b : Bx) (t : List Int) : implf42 K b t = some (rnc b t) := by
  unfold implf42 rnc
  rw [f30 K (by omega)]
  simp only [obS, ibne, cnot, cdec]
  by_cases hv : V b
  · obtain ⟨n1, n2, n3, n4⟩ := v_len hv
    simp only [if_pos hv]
    rw [if_pos trivial]
    by_cases hl : t.length = b.1.length
    · have e : t.getD 0 0 = tt t 0 := rfl
      rw [if_pos (by omega), if_pos (by omega), e]
      by_cases h0 : tt t 0 = 0
      · rw [if_pos h0, l42 K hK t b (by omega)]
        by_cases hf : full t.length t
        · rw [if_pos hf, if_pos ⟨hl, h0, hf⟩]
          show (ob (implf71 K b t) _) = _
          rw [f71 K hK hv (pig_num hl (hl ▸ hf))]; rfl
        · rw [if_neg hf, if_neg (fun h => hf h.2.2)]; rfl
      · rw [if_neg h0, if_neg (fun h => h0 h.2.1)]
    · rw [if_neg (by omega), if_neg (fun h => hl h.1)]
  · simp only [if_neg hv]
    rw [if_neg (by omega)]

theorem f43 (K : Nat) (hK : 10 ≤ K) (b : Bx) (t : List Int) : implf43 K b t = some (rnc b t) := by
  unfold implf43 rnc
  rw [f31 K (by omega)]
  simp only [obS, ibne, cnot, cdec]
  by_cases hv : V b
  · obtain ⟨n1, n2, n3, n4⟩ := v_len hv
    simp only [if_pos hv]
    rw [if_pos trivial]
    by_cases hl : t.length = b.1.length
    · have e : t.getD 0 0 = tt t 0 := rfl
      rw [if_pos (by omega), if_pos (by omega), e]
      by_cases h0 : tt t 0 = 0
      · rw [if_pos h0, l43 K hK t b (by omega)]
        by_cases hf : full t.length t
        · rw [if_pos hf, if_pos ⟨hl, h0, hf⟩]
          show (ob (implf73 K b t) _) = _
          rw [f73 K hK hv (pig_num hl (hl ▸ hf))]; rfl
        · rw [if_neg hf, if_neg (fun h => hf h.2.2)]; rfl
      · rw [if_neg h0, if_neg (fun h => h0 h.2.1)]
    · rw [if_neg (by omega), if_neg (fun h => hl h.1)]
  · simp only [if_neg hv]
    rw [if_neg (by omega)]

theorem l10a (K : Nat) (x1 x2 : Bx) (p : List (List Int)) : ∀ (k j : Nat) (q : List Int), q.length ≤ 1000000 → q.length - j < k → j ≤ q.length → ∃ q' i, q'.length = q.length ∧ impll10_0 K k x1 x2 (p, q) j = some (x2, (p, q'), i, ())
  | 0, j, q, _, hk, _ => by omega
  | k + 1, j, q, hb, hk, hj => by
    rw [impll10_0, implb10_0]
    simp only [cdec]
    by_cases hlt : j < q.length
    · rw [if_pos (by omega), if_pos (by omega), wrapS (by omega)]
      obtain ⟨q', i, h1, h2⟩ := l10a K x1 x2 p k (j + 1) (q.set (j : Int).toNat (-1)) (by simpa using hb) (by simp; omega) (by simp; omega)
      exact ⟨q', i, by simpa using h1, h2⟩
    · rw [if_neg (by omega)]
      exact ⟨q, _, rfl, rfl⟩

theorem l10b (K : Nat) (x1 x2 : Bx) (q : List Int) : ∀ (k j : Nat) (p : List (List Int)), p.length ≤ 1000000 → p.length - j < k → j ≤ p.length → ∃ p' i, impll10_2 K k x1 x2 (p, q) j = some (x2, (p', q), i, ())
  | 0, j, p, _, hk, _ => by omega
  | k + 1, j, p, hb, hk, hj => by
    rw [impll10_2, implb10_2]
    simp only [cdec]
    by_cases hlt : j < p.length
    · rw [if_pos (by omega), if_pos (by omega), wrapS (by omega)]
      exact l10b K x1 x2 q k (j + 1) _ (by simpa using hb) (by simp; omega) (by simp; omega)
    · rw [if_neg (by omega)]
      exact ⟨p, _, rfl⟩

theorem en_rn {b : Bx} (hv : V b) {t : List Int} (ht : num b.1.length t) (hi : inj b.1.length t) : ∀ {w : List Int} {s : Int}, inB b s → wok w → en (rn b t) (tt t s) w = tt t (en b s w)
  | [], s, _, _ => rfl
  | x :: w, s, hs, hw => by
    have hx := hw x (by simp)
    show en (rn b t) (nx (rn b t) (tt t s) x) w = tt t (en b (nx b s x) w)
    rw [rn_nx hv ht hi hs hx]
    exact en_rn hv ht hi (nx_in hv hs hx) fun y hy => hw y (by simp [hy])

theorem ans_rn {b : Bx} (hv : V b) {t : List Int} (ht : num b.1.length t) (hi : inj b.1.length t) (h0 : tt t 0 = 0) {w : List Int} (hw : wok w) : ans (rn b t) w = ans b w := by
  unfold ans
  refine List.map_congr_left fun i _ => ?_
  have h := en_rn hv ht hi (zero_in hv) (wok_take hw i)
  rw [h0] at h
  rw [h, rn_ot hv ht hi (en_in hv (zero_in hv) (wok_take hw i))]

theorem rnc_len (b : Bx) (t : List Int) : (rnc b t).1.1.length ≤ 6 ∧ (rnc b t).1.2.length ≤ 6 := by
  unfold rnc
  by_cases hv : V b
  · rw [if_pos hv]
    have h6 := hv.2.1
    obtain ⟨r1, r2⟩ := rn_len b t
    split
    · show (rn b t).1.length ≤ 6 ∧ (rn b t).2.length ≤ 6
      omega
    · simp
  · rw [if_neg hv]; simp

theorem endRenames (b r : Bx) (h1 : b.1.length ≤ 50) (h2 : b.2.length ≤ 50) (r1 : r.1.length ≤ 6) (r2 : r.2.length ≤ 6) :
    (ob (impll10_0 300 300 b b (r.1, r.2) 0) fun y13 => (ob (impll10_2 300 300 b (y13.1.1, y13.1.2) (y13.2.1.1, y13.2.1.2) 0) fun y14 => (ob (implf34 300 (y14.1.1, y14.1.2) b) fun y15 => (bif y15 then (ob (implf20 300) fun y16 => some (y16)) else some (false))))) = some true := by
  obtain ⟨q', i, _, ha⟩ := l10a 300 b b r.1 300 0 r.2 (by omega) (by omega) (by omega)
  have ha : impll10_0 300 300 b b (r.1, r.2) 0 = _ := ha
  rw [ha, obS]
  obtain ⟨p', i', hb⟩ := l10b 300 b b q' 300 0 r.1 (by omega) (by omega) (by omega)
  have hb : impll10_2 300 300 b (b.1, b.2) (r.1, q') 0 = _ := hb
  show (ob (impll10_2 300 300 b (b.1, b.2) (r.1, q') 0) _) = _
  rw [hb, obS]
  show (ob (implf34 300 b b) _) = _
  rw [f34 300 _ _ (by omega) (by omega) (by omega) (by omega), sane_ok]
  simp [obS]

theorem coreRenames (b : Bx) (t w : List Int) : implf10 300 b t w = some true := by
  unfold implf10
  have e0 : (((List.replicate 2 ([] : List Int)).set 0 t).set 1 w) = [t, w] := rfl
  rw [e0, f19 300 b [t, w] (by simp) (by simp)]
  simp only [obS, cdec]
  by_cases hl : lng b [t, w]
  · rw [if_pos hl, sane_ok]; rfl
  · rw [if_neg hl]
    have hn : ¬ (50 < b.1.length) ∧ ¬ (50 < b.2.length) ∧ ¬ (100 < w.length) := by
      unfold lng at hl
      refine ⟨fun h => hl (.inr (.inl h)), fun h => hl (.inr (.inr h)), fun h => hl (.inl ⟨w, by simp, h⟩)⟩
    obtain ⟨l1, l2, l3⟩ := hn
    rw [if_pos (by simp; omega), if_pos (by simp; omega)]
    simp only [List.replicate, List.nil_append]
    rw [show ((b.1, b.2) : Bx) = b from rfl, f42 300 (by omega), f43 300 (by omega)]
    simp only [obS]
    obtain ⟨r1, r2⟩ := rnc_len b t
    rw [show (((rnc b t).1.1, (rnc b t).1.2) : Bx) = (rnc b t).1 from rfl, f34 300 _ _ (by omega) (by omega) (by omega) (by omega)]
    have hend := endRenames b (rnc b t).1 (by omega) (by omega) r1 r2
    rw [show (((rnc b t).1.1, (rnc b t).1.2) : Bx) = (rnc b t).1 from rfl] at hend
    simp only [obS, decide_true, Bool.not_true, cond_false, ibne, ibeq, cnot, cdec, if_true, f26 300 (by omega : 50 ≤ 300), cond_true]
    by_cases hz : (rnc b t).2 = 0
    · rw [if_pos hz]
      have hr : V b ∧ t.length = b.1.length ∧ tt t 0 = 0 ∧ full t.length t ∧ (rnc b t).1 = rn b t := by
        unfold rnc at hz ⊢
        by_cases hv : V b
        · rw [if_pos hv] at hz ⊢
          by_cases hc : t.length = b.1.length ∧ tt t 0 = 0 ∧ full t.length t
          · rw [if_pos hc]; exact ⟨hv, hc.1, hc.2.1, hc.2.2, rfl⟩
          · rw [if_neg hc] at hz; cases hz
        · rw [if_neg hv] at hz; cases hz
      obtain ⟨hv, htl, h0, hf, hrn⟩ := hr
      rw [htl] at hf
      have ht := pig_num htl hf
      have hi := pig_inj htl hf
      have hv' : V (rn b t) := v_rn hv ht hi fun i hi => pig_sur htl hf i hi
      have hwc : wc (rn b t) w = wc b w := by unfold wc; rw [if_pos hv, if_pos hv']
      rw [hrn] at hend ⊢
      rw [hwc]
      by_cases hw : wc b w = 0
      · obtain ⟨_, hwl, hwo⟩ := wc_zero hw
        simp only [if_pos hw]
        rw [if_pos trivial, ans_rn hv ht hi h0 hwo, f23 300 _ _ (by simp [ans]; omega) (by simp [ans]; omega)]
        simp only [obS, decide_true, Bool.not_true, cond_false, cond_true]
        exact hend
      · simp only [if_neg hw]
        rw [if_pos trivial, f23 300 _ _ (by simp) (by simp)]
        simp only [obS, decide_true, Bool.not_true, cond_false, cond_true]
        exact hend
    · rw [if_neg hz]
      exact hend

theorem pureRelayRenames : ∀ x, wfAll tl [25, 23, 23] x → ∃ k, implf10 k x.1 x.2.1 x.2.2.1 = some true := fun x _ => ⟨300, coreRenames x.1 x.2.1 x.2.2.1⟩

end Go.Proofs.Ythdmngalhppkcaa
