/- Boxes with other signals. -/
import Derived.Test.YthdmngalhppkcaaM2
set_option linter.unusedVariables false
set_option linter.unusedSimpArgs false
namespace Go.Proofs.Ythdmngalhppkcaa
open Go Go.Pv Classical

def sok (t : List Int) : Prop := ∀ x ∈ t, 0 ≤ x ∧ x ≤ 3
def sgf (t : List Int) (s : Int) : Int := t.getD s.toNat 0
def sg (b : Bx) (t : List Int) : Bx := (b.1, b.2.map (sgf t))
noncomputable def sc (b : Bx) (t : List Int) : Bx × Int := if V b then (if t.length = 4 then (if sok t then (sg b t, 0) else (([], []), 1)) else (([], []), 1)) else (([], []), 1)

theorem l87a (K : Nat) (w : List Int) (hw : w.length ≤ 1000000) (hK : w.length < K) : ∃ r, impll87a_0 K K w () w.length 0 = some r ∧ ((sok w ∧ r = .inl ((w.length : Int), ())) ∨ (¬ sok w ∧ ∃ m : Nat, r = .inr (m : Int))) := by
  have key : ∀ (k j : Nat), w.length - j < k → j ≤ w.length →
      ∃ r, impll87a_0 K k w () w.length j = some r ∧ ((sok (w.drop j) ∧ r = .inl ((w.length : Int), ())) ∨ (¬ sok (w.drop j) ∧ ∃ m : Nat, r = .inr (m : Int))) := by
    intro k
    induction k with
    | zero => intro j hk hj; omega
    | succ k ih =>
      intro j hk hj
      rw [impll87a_0, implb87a_0]
      simp only [w61, obS, cdec, cnot]
      by_cases hlt : j < w.length
      · rw [if_pos (by omega), if_pos (by omega), wrapS (by omega)]
        have e : w.getD (j : Int).toNat 0 = w.getD j 0 := rfl
        rw [e]
        have hd := drop_cons hlt
        by_cases g : 0 ≤ w.getD j 0 ∧ w.getD j 0 ≤ 3
        · rw [if_pos g]
          obtain ⟨r, h1, h2⟩ := ih (j + 1) (by omega) (by omega)
          refine ⟨r, h1, ?_⟩
          rw [hd]
          rcases h2 with ⟨h2, h3⟩ | ⟨h2, h3⟩
          · exact .inl ⟨fun x hx => (List.mem_cons.1 hx).elim (fun e => by rw [e]; exact g) (h2 x), h3⟩
          · exact .inr ⟨fun h => h2 fun x hx => h x (List.mem_cons_of_mem _ hx), h3⟩
        · rw [if_neg g]
          refine ⟨_, rfl, .inr ⟨fun h => g (h _ (by rw [hd]; exact List.mem_cons_self)), j, rfl⟩⟩
      · rw [if_neg (by omega)]
        have : j = w.length := by omega
        subst this
        exact ⟨_, rfl, .inl ⟨fun x hx => by simp at hx, rfl⟩⟩
  have := key K 0 (by omega) (by omega)
  simpa using this

theorem f37 (K : Nat) (hK : 20 ≤ K) (b : Bx) (t : List Int) : implf37 K b t = some (sc b t) := by
  unfold implf37 sc
  rw [f30 K (by omega)]
  simp only [obS, ibne, cnot, cdec]
  by_cases hv : V b
  · obtain ⟨n1, n2, n3, n4⟩ := v_len hv
    simp only [if_pos hv, if_true]
    by_cases h4 : t.length = 4
    · rw [if_pos (by omega), if_pos h4]
      obtain ⟨r, h1, h2⟩ := l87a K t (by omega) (by omega)
      unfold implf87a
      rw [h1]
      rcases h2 with ⟨h2, h3⟩ | ⟨h2, m, h3⟩
      · subst h3
        rw [if_pos h2]
        simp only [obS]
        rw [if_neg (by omega), f69 K _ (by omega), obS]
        have h := upto (fun k (s : List Int × Bx × Bx × List Int × Int × Int) => impll37_0 K k s.1 s.2.1 s.2.2.1 s.2.2.2.1 s.2.2.2.2.1 s.2.2.2.2.2) (fun j => (t, ([], []), (b.1, (b.2.take j).map (sgf t)), b.2, (b.2.length : Int), (j : Int))) b.2.length
          (([], []), sg b t, (b.2.length : Int), ()) (fun k j hj => by
            show impll37_0 K (k + 1) t ([], []) (b.1, (b.2.take j).map (sgf t)) b.2 b.2.length j = impll37_0 K k t ([], []) (b.1, (b.2.take (j + 1)).map (sgf t)) b.2 b.2.length ((j + 1 : Nat) : Int)
            rw [impll37_0, implb37_0]
            simp only [cdec]
            have ho := (hv.2.2.2 j (by omega)).2.2
            have eo : ot b j = b.2.getD j 0 := rfl
            have eo' : b.2.getD (j : Int).toNat 0 = b.2.getD j 0 := rfl
            rw [eo] at ho
            rw [if_pos (by omega), if_pos (by omega), eo', if_pos (by omega), if_pos (by simp; omega), wrapS (by omega), ← map_snoc (0 : Int) (sgf t) hj]
            rfl) (fun k => by
            show impll37_0 K (k + 1) t ([], []) (b.1, (b.2.take b.2.length).map (sgf t)) b.2 b.2.length b.2.length = _
            rw [impll37_0, implb37_0]
            simp only [cdec]
            rw [if_neg (by omega), List.take_of_length_le (Nat.le_refl _)]
            rfl) K 0 (by omega) (by omega)
        have h : impll37_0 K K t ([], []) (b.1, []) b.2 b.2.length 0 = _ := h
        rw [h]; rfl
      · subst h3
        rw [if_neg h2]
        simp only [obS]
        rw [if_pos (by omega)]
    · rw [if_neg (by omega), if_neg h4]
  · simp only [if_neg hv]
    rw [if_neg (by omega)]

theorem f38 (K : Nat) (hK : 20 ≤ K) (b : Bx) (t : List Int) : implf38 K b t = some (sc b t) := by
  unfold implf38 sc
  rw [f31 K (by omega)]
  simp only [obS, ibne, cnot, cdec]
  by_cases hv : V b
  · obtain ⟨n1, n2, n3, n4⟩ := v_len hv
    simp only [if_pos hv, if_true]
    by_cases h4 : t.length = 4
    · rw [if_pos (by omega), if_pos h4]
      have h := uptoAll (fun k (s : List Int × Bx × Bx × Int) => impll38_0 K k s.1 s.2.1 s.2.2.1 s.2.2.2) (fun j => (t, b, ([], []), (j : Int))) t.length (fun j => 0 ≤ t.getD j 0 ∧ t.getD j 0 ≤ 3)
        (.inl (([], []), (t.length : Int), ())) (.inr (([], []), 1, ())) (fun k j hj hp => by
          show impll38_0 K (k + 1) t b ([], []) j = impll38_0 K k t b ([], []) ((j + 1 : Nat) : Int)
          rw [impll38_0, implb38_0]
          simp only [w62, obS, cdec, cnot]
          have hp : 0 ≤ t.getD (j : Int).toNat 0 ∧ t.getD (j : Int).toNat 0 ≤ 3 := hp
          rw [if_pos (by omega), if_pos (by omega), if_pos hp, wrapS (by omega)]) (fun k j hj hp => by
          show impll38_0 K (k + 1) t b ([], []) j = _
          rw [impll38_0, implb38_0]
          simp only [w62, obS, cdec, cnot]
          have hp : ¬ (0 ≤ t.getD (j : Int).toNat 0 ∧ t.getD (j : Int).toNat 0 ≤ 3) := hp
          rw [if_pos (by omega), if_pos (by omega), if_neg hp]) (fun k => by
          show impll38_0 K (k + 1) t b ([], []) t.length = _
          rw [impll38_0, implb38_0]
          simp only [cdec]
          rw [if_neg (by omega)]) K 0 (by omega) (by omega)
      have h : impll38_0 K K t b ([], []) 0 = _ := h
      rw [h]
      have hso : sok t ↔ ∀ i, 0 ≤ i → i < t.length → 0 ≤ t.getD i 0 ∧ t.getD i 0 ≤ 3 := by
        constructor
        · exact fun hs i _ hi => hs _ (getD_mem 0 hi)
        · intro hs x hx
          obtain ⟨i, hi, rfl⟩ := List.mem_iff_getElem.1 hx
          have := hs i (Nat.zero_le _) hi
          simpa [List.getD, hi] using this
      by_cases hs : sok t
      · rw [if_pos hs, if_pos (hso.1 hs)]
        simp only [obS]
        rw [if_pos (by simp; omega), if_pos (by simp; omega)]
        have h := upto (fun k (s : List Int × Bx × Bx × Bx × Int) => impll38_2 K k s.1 s.2.1 s.2.2.1 s.2.2.2.1 s.2.2.2.2) (fun j => (t, b, ([], []), (b.1, (b.2.take j).map (sgf t) ++ b.2.drop j), (j : Int))) b.2.length
          (([], []), sg b t, (b.2.length : Int), ()) (fun k j hj => by
            show impll38_2 K (k + 1) t b ([], []) (b.1, (b.2.take j).map (sgf t) ++ b.2.drop j) j = impll38_2 K k t b ([], []) (b.1, (b.2.take (j + 1)).map (sgf t) ++ b.2.drop (j + 1)) ((j + 1 : Nat) : Int)
            rw [impll38_2, implb38_2]
            have ho := (hv.2.2.2 j (by omega)).2.2
            have eo : ot b j = b.2.getD j 0 := rfl
            have eo' : b.2.getD (j : Int).toNat 0 = b.2.getD j 0 := rfl
            rw [eo] at ho
            have hlen : ((b.2.take j).map (sgf t) ++ b.2.drop j).length = b.2.length := by simp; omega
            have c1 : (j : Int) < ((((b.2.take j).map (sgf t) ++ b.2.drop j).length : Nat) : Int) := by omega
            have c2 : 0 ≤ (j : Int) ∧ (j : Int) < (b.2.length : Int) := by omega
            have c3 : 0 ≤ (j : Int) ∧ (j : Int) < ((((b.2.take j).map (sgf t) ++ b.2.drop j).length : Nat) : Int) := by omega
            have c4 : 0 ≤ b.2.getD j 0 ∧ b.2.getD j 0 < (t.length : Int) := by omega
            simp only [cdec, if_pos c1, if_pos c2, if_pos c3, eo', if_pos c4]
            rw [wrapS (by omega), ← set_map (0 : Int) (sgf t) hj]
            rfl) (fun k => by
            show impll38_2 K (k + 1) t b ([], []) (b.1, (b.2.take b.2.length).map (sgf t) ++ b.2.drop b.2.length) b.2.length = _
            rw [impll38_2, implb38_2]
            simp only [cdec]
            rw [if_neg (by simp), List.take_of_length_le (Nat.le_refl _), List.drop_of_length_le (Nat.le_refl _), List.append_nil]
            rfl) K 0 (by omega) (by omega)
        have h : impll38_2 K K t b ([], []) (b.1, b.2) 0 = _ := h
        show (ob (impll38_2 K K t b ([], []) (b.1, b.2) 0) _) = _
        rw [h]; rfl
      · rw [if_neg hs, if_neg (fun h => hs (hso.2 h))]
        rfl
    · rw [if_neg (by omega), if_neg h4]
  · simp only [if_neg hv]
    rw [if_neg (by omega)]

theorem sgf_in {t : List Int} (h4 : t.length = 4) (hs : sok t) {s : Int} (h : 0 ≤ s ∧ s ≤ 3) : 0 ≤ sgf t s ∧ sgf t s ≤ 3 := hs _ (getD_mem 0 (by omega))

theorem ot_sg {b : Bx} {t : List Int} (hv : V b) {s : Int} (hs : inB b s) : ot (sg b t) s = sgf t (ot b s) := by
  have := hv.2.2.1
  exact getD_map (0 : Int) 0 (sgf t) (by have := hs.1; have := hs.2; omega)

theorem v_sg {b : Bx} {t : List Int} (hv : V b) (h4 : t.length = 4) (hs : sok t) : V (sg b t) := by
  refine ⟨hv.1, hv.2.1, by simpa [sg] using hv.2.2.1, fun j hj => ?_⟩
  have hg := hv.2.2.2 j hj
  have ho := ot_sg (t := t) hv (s := j) ⟨by omega, by have : j < b.1.length := hj; omega⟩
  refine ⟨hg.1, hg.2.1, ?_⟩
  rw [ho]
  exact sgf_in h4 hs hg.2.2

theorem ans_sg {b : Bx} {t : List Int} (hv : V b) {w : List Int} (hw : wok w) : ans (sg b t) w = (ans b w).map (sgf t) := by
  unfold ans
  rw [List.map_map]
  refine List.map_congr_left fun i hi => ?_
  show ot (sg b t) (en (sg b t) 0 (w.take i)) = sgf t (ot b (en b 0 (w.take i)))
  have e : en (sg b t) 0 (w.take i) = en b 0 (w.take i) := rfl
  rw [e, ot_sg hv (en_in hv (zero_in hv) (wok_take hw i))]

end Go.Proofs.Ythdmngalhppkcaa
