/- The smallest box: what the two texts answer. -/
import Derived.Test.YthdmngalhppkcaaM16
set_option linter.unusedVariables false
set_option linter.unusedSimpArgs false
namespace Go.Proofs.Ythdmngalhppkcaa
open Go Go.Pv Classical

noncomputable def pos (t : List Int) (x : Int) : Int := if x ∈ t then ((ix t x : Nat) : Int) else -1

theorem ix_cons (y : Int) (l : List Int) (q : Int) : ix (y :: l) q = if y = q then 0 else ix l q + 1 := by
  by_cases h : y = q <;> simp [ix, h]

theorem p88 (K : Nat) (t : List Int) (x : Int) (hl : t.length ≤ 1000000) (hK : t.length < K) : implf88 K t x = some (pos t x) := by
  have key : ∀ k j, t.length - j < k → j ≤ t.length → impll88_0 K k t x t.length j = some (if x ∈ t.drop j then .inr ((j + ix (t.drop j) x : Nat) : Int) else .inl ((t.length : Int), ())) := by
    intro k
    induction k with
    | zero => intro j h; omega
    | succ k ih =>
      intro j hk hj
      rw [impll88_0, implb88_0]
      simp only [cdec, ibeq]
      by_cases hlt : j < t.length
      · have hd := drop_getD (0 : Int) hlt
        have e : t.getD (j : Int).toNat 0 = t.getD j 0 := rfl
        rw [if_pos (by omega), if_pos (by omega), e, hd, ix_cons]
        by_cases h : x = t.getD j 0
        · rw [if_pos h, if_pos (by rw [← h]; exact List.mem_cons_self), if_pos h.symm]; rfl
        · rw [if_neg h, wrapS (by omega), ih (j + 1) (by omega) (by omega), if_neg (show ¬ t.getD j 0 = x from fun g => h g.symm)]
          by_cases hm : x ∈ t.drop (j + 1)
          · rw [if_pos hm, if_pos (List.mem_cons_of_mem _ hm)]
            congr 2
            omega
          · rw [if_neg hm, if_neg (fun g => (List.mem_cons.1 g).elim h hm)]
      · have : j = t.length := by omega
        subst this
        rw [if_neg (by omega), if_neg (by simp)]
  unfold implf88 pos
  have h := key K 0 (by omega) (by omega)
  simp only [Int.natCast_zero, List.drop_zero, Nat.zero_add] at h
  rw [h]
  by_cases hm : x ∈ t
  · rw [if_pos hm, if_pos hm]; rfl
  · rw [if_neg hm, if_neg hm]; rfl

theorem pos_in {t : List Int} {x : Int} (h : x ∈ t) : pos t x = ((ix t x : Nat) : Int) := by unfold pos; rw [if_pos h]
theorem pos_out {t : List Int} {x : Int} (h : x ∉ t) : pos t x = -1 := by unfold pos; rw [if_neg h]

section
variable {b : Bx}
theorem step80 {K k j : Nat} {F row nr kd : List Int} {p z : Bx} {x : Int} (hx : x = 0 ∨ x = 1) (hK : 20 < K) (hF : F.length ≤ 10) (hr : 0 ≤ row.getD x.toNat 0 ∧ row.getD x.toNat 0 < (kd.length : Int)) :
    impll80_2 K (k + 1) b z kd F p j nr row x = impll80_2 K k b z kd (ins F (kd.getD (row.getD x.toNat 0).toNat 0)) p j (nr.set x.toNat ((ix (ins F (kd.getD (row.getD x.toNat 0).toNat 0)) (kd.getD (row.getD x.toNat 0).toNat 0) : Nat) : Int)) row (x + 1) := by
  rw [impll80_2, implb80_2]
  have c1 : x < 2 := by omega
  have c2 : 0 ≤ x ∧ x < 2 := by omega
  have w1 : IntKind.i64.wrap (x + 1) = x + 1 := wrapI (by omega) (by omega)
  generalize hq : kd.getD (row.getD x.toNat 0).toNat 0 = q
  simp only [cdec, cnot, if_pos c1, if_pos c2, if_pos hr, w1, p88 K F q (by omega) (by omega), obS]
  unfold ins
  by_cases hm : q ∈ F
  · rw [pos_in hm, if_pos (by omega), if_pos hm]
  · have hm2 : q ∈ F ++ [q] := by simp
    rw [pos_out hm, if_neg (by omega), if_pos (by simp; omega), if_neg hm]
    have h88 := p88 K (F ++ [q]) q (by simp; omega) (by simp; omega)
    rw [pos_in hm2] at h88
    have h88 : implf88 K (F ++ (List.replicate 1 (0 : Int)).set 0 q) q = some ((ix (F ++ [q]) q : Nat) : Int) := h88
    rw [h88]
    rfl

theorem inner80 {K j : Nat} {F row kd : List Int} {p z : Bx} (hK : 20 < K) (hF : F.length ≤ 9) (hr : ∀ x : Int, x = 0 ∨ x = 1 → 0 ≤ row.getD x.toNat 0 ∧ row.getD x.toNat 0 < (kd.length : Int)) {q0 q1 : Int} (h0 : kd.getD (row.getD 0 0).toNat 0 = q0) (h1 : kd.getD (row.getD 1 0).toNat 0 = q1) :
    impll80_2 K K b z kd F p j (List.replicate 2 0) row 0 = some (z, ins (ins F q0) q1, p, [((ix (ins F q0) q0 : Nat) : Int), ((ix (ins (ins F q0) q1) q1 : Nat) : Int)], 2, ()) := by
  obtain ⟨K', rfl⟩ : ∃ K', K = K' + 3 := ⟨K - 3, by omega⟩
  have hl := ins_len F q0
  have s0 := step80 (b := b) (K := K' + 3) (k := K' + 2) (j := j) (F := F) (nr := List.replicate 2 0) (p := p) (z := z) (.inl rfl) hK (by omega) (hr 0 (.inl rfl))
  have s1 := step80 (b := b) (K := K' + 3) (k := K' + 1) (j := j) (F := ins F q0) (nr := (List.replicate 2 0).set 0 ((ix (ins F q0) q0 : Nat) : Int)) (p := p) (z := z) (.inr rfl) hK (by omega) (hr 1 (.inr rfl))
  have e0 : kd.getD (row.getD (0 : Int).toNat 0).toNat 0 = q0 := h0
  have e1 : kd.getD (row.getD (1 : Int).toNat 0).toNat 0 = q1 := h1
  rw [e0] at s0
  rw [e1] at s1
  rw [s0]
  have : (0 : Int) + 1 = 1 := rfl
  rw [this]
  have s1' : impll80_2 (K' + 3) (K' + 2) b z kd (ins F q0) p j ((List.replicate 2 0).set (0 : Int).toNat ((ix (ins F q0) q0 : Nat) : Int)) row 1 = _ := s1
  rw [s1']
  have : (1 : Int) + 1 = 2 := rfl
  rw [this, impll80_2, implb80_2]
  rfl

theorem l80 (hv : V b) (z : Bx) : ∀ (k j : Nat) (F : List Int) (N : List (List Int)) (O : List Int), SI (nk b) (ot b) (Pk b) j F N O → 6 - j < k →
    ∃ F' i, impll80_0 300 k b z (kinds b) F (N, O) j = some (z, F', sr (nk b) (ot b) k j F N O, i, ())
  | 0, j, F, N, O, h, hk => by omega
  | k + 1, j, F, N, O, h, hk => by
    have h6 := hv.2.1
    have h22 := hv.2.2.1
    have hFl := few_P hv F h.nod h.hp
    have hN := h.hN
    have hO := h.hO
    have hjF := h.hk
    rw [impll80_0, implb80_0]
    simp only [cdec]
    by_cases hlt : j < F.length
    · have ha : F[j]? = some (F.getD j 0) := by rw [List.getElem?_eq_getElem hlt]; simp [List.getD, hlt]
      generalize F.getD j 0 = a at ha
      have hget : F.getD (j : Int).toNat 0 = a := by
        rw [show (j : Int).toNat = j from rfl, List.getD_eq_getElem?_getD, ha]; rfl
      have hP := h.hp a (List.mem_of_getElem? ha)
      have hin := hP.1
      have hi1 := hin.1
      have hi2 := hin.2
      have c5 : 0 ≤ (j : Int) ∧ (j : Int) < (F.length : Int) := by omega
      have c6 : 0 ≤ a ∧ a < (b.1.length : Int) := hin
      have c7 : 0 ≤ a ∧ a < (b.2.length : Int) := by rw [h22]; exact hin
      have hrow : ∀ x : Int, x = 0 ∨ x = 1 → 0 ≤ (b.1.getD a.toNat (List.replicate 2 0)).getD x.toNat 0 ∧ (b.1.getD a.toNat (List.replicate 2 0)).getD x.toNat 0 < ((kinds b).length : Int) := fun x hx => by
        rw [kinds_len]
        exact nx_in hv hin (by omega)
      have hi := inner80 (b := b) (K := 300) (j := j) (F := F) (kd := kinds b) (p := (N, O)) (z := z) (by omega) (by omega) hrow (q0 := nk b a 0) (q1 := nk b a 1) rfl rfl
      have hn := h.next (fun a x ha hx => nk_P hv ha hx) ha
      obtain ⟨t, ht⟩ := ins_pre F (nk b a 0)
      obtain ⟨t', ht'⟩ := ins_pre (ins F (nk b a 0)) (nk b a 1)
      have e2 : ins (ins F (nk b a 0)) (nk b a 1) = F ++ (t ++ t') := by rw [ht', ht, List.append_assoc]
      have hl2 : F.length ≤ (ins (ins F (nk b a 0)) (nk b a 1)).length := by rw [e2]; simp
      have hget2 : (ins (ins F (nk b a 0)) (nk b a 1)).getD (j : Int).toNat 0 = a := by
        rw [e2, show (j : Int).toNat = j from rfl, List.getD_eq_getElem?_getD, List.getElem?_append_left hlt, ha]; rfl
      have c8 : 0 ≤ (j : Int) ∧ (j : Int) < ((ins (ins F (nk b a 0)) (nk b a 1)).length : Int) := by omega
      rw [if_pos (by omega), if_pos c5, hget, if_pos c6]
      show ∃ F' i, (ob (impll80_2 300 300 b z (kinds b) F (N, O) j (List.replicate 2 0) (b.1.getD a.toNat (List.replicate 2 0)) 0) _) = _
      rw [hi]
      simp only [obS]
      rw [if_pos (by simp; omega), if_pos c8, hget2, if_pos c7, if_pos (by simp; omega), wrapS (by omega), sr, ha]
      exact l80 hv z k (j + 1) _ _ _ hn (by omega)
    · rw [if_neg (by omega), sr, List.getElem?_eq_none (by omega)]
      exact ⟨_, _, rfl⟩

theorem f80 (hv : V b) : implf80 300 b = some (sm b) := by
  unfold implf80
  have hl := kinds_len b
  have h1 := hv.1
  rw [f59 hv]
  simp only [obS]
  rw [if_pos (by omega)]
  obtain ⟨F', i, h⟩ := l80 hv ([], []) 300 0 [(kinds b).getD 0 0] [] [] (SI_first hv) (by omega)
  have h : impll80_0 300 300 b ([], []) (kinds b) ((List.replicate 1 (0 : Int)).set 0 ((kinds b).getD 0 0)) ([], []) 0 = _ := h
  rw [h]; rfl

end

noncomputable def smc (b : Bx) : Bx × Int := if V b then (sm b, 0) else (([], []), 1)
theorem f50 (b : Bx) : implf50 300 b = some (smc b) := by
  unfold implf50 smc
  rw [f30 300 (by omega)]
  simp only [obS, ibne, cnot, cdec]
  by_cases hv : V b
  · simp only [if_pos hv]
    rw [if_pos trivial, f80 hv]; rfl
  · simp only [if_neg hv]
    rw [if_neg (by omega)]
theorem f81 (K : Nat) (a c : List (List Int)) (hK : a.length < K) (hb : a.length ≤ 1000000) : implf81 K a c = some (decide (a = c)) := by
  unfold implf81
  simp only [ibne, cnot, cdec]
  by_cases hl : a.length = c.length
  · rw [if_pos (by omega)]
    have key : ∀ k j, a.length - j < k → j ≤ a.length → impll81_0 K k a c a.length j = some (if a.drop j = c.drop j then .inl ((a.length : Int), ()) else .inr false) := by
      intro k
      induction k with
      | zero => intro j h; omega
      | succ k ih =>
        intro j hk hj
        rw [impll81_0, implb81_0]
        simp only [cdec]
        by_cases hlt : j < a.length
        · have hd := drop_getD (List.replicate 2 (0 : Int)) hlt
          have hd2 := drop_getD (List.replicate 2 (0 : Int)) (show j < c.length by omega)
          have e : a.getD (j : Int).toNat (List.replicate 2 0) = a.getD j (List.replicate 2 0) := rfl
          have e2 : c.getD (j : Int).toNat (List.replicate 2 0) = c.getD j (List.replicate 2 0) := rfl
          rw [if_pos (by omega), if_pos (by omega), if_pos (by omega), cnot, e, e2]
          refine (congrArg (fun t => bif t then impll81_0 K k a c a.length (IntKind.i64.wrap ((j : Int) + 1)) else some (Sum.inr false)) (rowEq (a.getD j (List.replicate 2 0)) (c.getD j (List.replicate 2 0)))).trans ?_
          show (bif decide (a.getD j (List.replicate 2 0) = c.getD j (List.replicate 2 0)) then impll81_0 K k a c a.length (IntKind.i64.wrap ((j : Int) + 1)) else some (Sum.inr false)) = _
          rw [cdec, hd, hd2]
          by_cases h : a.getD j (List.replicate 2 0) = c.getD j (List.replicate 2 0)
          · rw [if_pos h, wrapS (by omega), ih (j + 1) (by omega) (by omega), h]
            by_cases hr : a.drop (j + 1) = c.drop (j + 1)
            · rw [if_pos hr, if_pos (by rw [hr])]
            · rw [if_neg hr, if_neg (fun g => hr (List.cons.inj g).2)]
          · rw [if_neg h, if_neg (fun g => h (List.cons.inj g).1)]
        · have : j = a.length := by omega
          subst this
          rw [if_neg (by omega), List.drop_length, hl, List.drop_length, if_pos rfl]
    have h := key K 0 (by omega) (by omega)
    simp only [Int.natCast_zero, List.drop_zero] at h
    rw [h]
    by_cases e : a = c
    · rw [if_pos e, decide_eq_true e]; rfl
    · rw [if_neg e, decide_eq_false e]; rfl
  · rw [if_neg (by omega), decide_eq_false (fun e => hl (by rw [e]))]

theorem f52 (A B : Bx) : implf52 300 A B = some (if V A ∧ V B then (decide (sm A = sm B), 0) else (false, 1)) := by
  unfold implf52 implf76
  rw [f30 300 (by omega), f30 300 (by omega)]
  simp only [obS, ibne, cnot, cdec]
  by_cases hA : V A
  · simp only [if_pos hA]
    rw [if_pos trivial]
    by_cases hB : V B
    · have hl := sm_len hA
      simp only [if_pos hB, obS]
      rw [if_pos trivial, f80 hA, f80 hB, if_pos ⟨hA, hB⟩]
      simp only [obS]
      rw [f81 300 _ _ (by omega) (by omega), obS, cdec]
      by_cases e : (sm A).1 = (sm B).1
      · rw [if_pos e, f82 300 _ _ (by omega) (by omega), obS]
        by_cases e2 : (sm A).2 = (sm B).2
        · rw [decide_eq_true e2, decide_eq_true (Prod.ext e e2)]
        · rw [decide_eq_false e2, decide_eq_false (fun h => e2 (by rw [h]))]
      · rw [if_neg e, decide_eq_false (fun h => e (by rw [h]))]
    · simp only [if_neg hB, obS]
      rw [if_neg (by omega), if_neg (fun h => hB h.2)]
  · simp only [if_neg hA]
    rw [if_neg (by omega), if_neg (fun h => hA h.1)]
    simp only [obS]
    rw [if_neg (by omega)]

end Go.Proofs.Ythdmngalhppkcaa
