/- The mathematics of stations, part 4. -/
import Derived.Test.YtbpjodikknbcoaaGreatDoorMs3
import Derived.Lib.IndexBytes
import Derived.Lib.ItoaNum
import Derived.Lib.AtoiAll
import Derived.Lib.AtoiTie
import Derived.KernelRfl
import Derived.Lib.AtoiAllCases
set_option maxRecDepth 1000000
set_option linter.unusedVariables false
set_option linter.unusedSimpArgs false
namespace Go.Proofs.YtbpjodikknbcoaaGreatDoor
open Go Go.Pv
/-- The best of an amount over some weights, by a table of the smaller amounts. -/
def candF (T : List Int) (n : Int) : Int → List Int → Int
  | best, [] => best
  | best, c :: r => candF T n (if c ≤ n ∧ T.getD (n - c).toNat 0 ≥ 0 ∧ (best < 0 ∨ T.getD (n - c).toNat 0 + 1 < best) then T.getD (n - c).toNat 0 + 1 else best) r
/-- The table of the amounts up to n. -/
def tabF (w : List Int) : Nat → List Int
  | 0 => [0]
  | n + 1 => tabF w n ++ [candF (tabF w n) ((n + 1 : Nat) : Int) (-1) w]
theorem tabF_len (w : List Int) : ∀ n, (tabF w n).length = n + 1
  | 0 => rfl
  | n + 1 => by simp [tabF, tabF_len w n]
theorem candF_rng {T : List Int} {n : Int} {M : Int} (hM : -1 ≤ M) (hT : ∀ j, T.getD j 0 ≤ M) : ∀ (w : List Int) (best : Int), -1 ≤ best → best ≤ M + 1 → -1 ≤ candF T n best w ∧ candF T n best w ≤ M + 1
  | [], best, h1, h2 => ⟨h1, h2⟩
  | c :: r, best, h1, h2 => by
    unfold candF
    have hc := hT (n - c).toNat
    refine candF_rng hM hT r _ ?_ ?_
    · split
      · rename_i h; omega
      · exact h1
    · split
      · omega
      · exact h2
theorem tabF_rng (w : List Int) : ∀ n j, -1 ≤ (tabF w n).getD j 0 ∧ (tabF w n).getD j 0 ≤ (n : Int)
  | 0, j => by
    cases j with
    | zero => simp [tabF]
    | succ j => simp [tabF]
  | n + 1, j => by
    have ih := tabF_rng w n
    have hc := candF_rng (T := tabF w n) (n := ((n + 1 : Nat) : Int)) (M := (n : Int)) (by omega) (fun j => (ih j).2) w (-1) (by omega) (by omega)
    have e : tabF w (n + 1) = tabF w n ++ [candF (tabF w n) ((n + 1 : Nat) : Int) (-1) w] := rfl
    rw [e]
    rw [List.getD_eq_getElem?_getD, List.getElem?_append]
    by_cases h : j < (tabF w n).length
    · rw [if_pos h, ← List.getD_eq_getElem?_getD]
      have := ih j
      show -1 ≤ _ ∧ _ ≤ ((n + 1 : Nat) : Int)
      omega
    · rw [if_neg h]
      rcases hk : j - (tabF w n).length with _ | k
      · simp only [List.getElem?_cons_zero, Option.getD_some]
        show -1 ≤ _ ∧ _ ≤ ((n + 1 : Nat) : Int)
        omega
      · simp only [List.getElem?_cons_succ, List.getElem?_nil, Option.getD_none]
        show (-1 : Int) ≤ 0 ∧ (0 : Int) ≤ ((n + 1 : Nat) : Int)
        omega
theorem loop75 (w T L P Q : List Int) (m : Int) (n : Nat) (hn : n ≤ 5000) (hT : T.length = n) (hr : ∀ j, -1 ≤ T.getD j 0 ∧ T.getD j 0 ≤ 5000) (hw : w.length ≤ 1000) (hw1 : ∀ j, j < w.length → 1 ≤ w.getD j 0 ∧ w.getD j 0 ≤ 30) :
    ∀ (d i k : Nat) (best by' : Int), w.length - i = d → i ≤ w.length → d < k →
    ∃ z : Int × Int, impll75_0 KK k w m (P, Q) (T, L) (n : Int) best by' w (w.length : Int) (i : Int) = some ((P, Q), (T, L), candF T (n : Int) best (w.drop i), z.1, z.2, ())
  | d, i, 0, _, _, _, _, h => by omega
  | d, i, k + 1, best, by', hd, hi, hk => by
    show ∃ z : Int × Int, implb75_0 KK (impll75_0 KK k) w m _ _ _ _ _ _ _ _ = _
    unfold implb75_0
    simp only [cdec]
    by_cases h : i < w.length
    · rw [if_pos (by omega), if_pos (by omega), Int.toNat_natCast]
      have hwi := hw1 i h
      have hdr := drop_getD (w := w) (j := i) 0 h
      obtain ⟨c, hc⟩ : ∃ c, c = w.getD i 0 := ⟨_, rfl⟩
      rw [← hc] at hwi hdr ⊢
      rw [hdr]
      unfold candF
      have hti := hr ((n : Int) - c).toNat
      obtain ⟨v, hv⟩ : ∃ v, v = T.getD ((n : Int) - c).toNat 0 := ⟨_, rfl⟩
      rw [wrapI (n := (n : Int) - c) (by omega) (by omega)]
      rw [← hv] at hti ⊢
      rw [wrapI (n := v + 1) (by omega) (by omega)]
      by_cases h1 : c ≤ (n : Int)
      · rw [if_pos h1, if_pos (by omega)]
        by_cases h2 : v ≥ 0
        · rw [if_pos h2]
          by_cases h3 : best < 0
          · rw [if_pos h3, if_pos (by omega), if_pos ⟨h1, h2, .inl h3⟩, wrapS (by omega)]
            exact loop75 w T L P Q m n hn hT hr hw hw1 (d - 1) (i + 1) k _ _ (by omega) (by omega) (by omega)
          · rw [if_neg h3, if_pos (by omega)]
            by_cases h4 : v + 1 < best
            · rw [if_pos h4, if_pos (by omega), if_pos ⟨h1, h2, .inr h4⟩, wrapS (by omega)]
              exact loop75 w T L P Q m n hn hT hr hw hw1 (d - 1) (i + 1) k _ _ (by omega) (by omega) (by omega)
            · rw [if_neg h4, if_neg (fun e => e.2.2.elim h3 h4), wrapS (by omega)]
              exact loop75 w T L P Q m n hn hT hr hw hw1 (d - 1) (i + 1) k _ _ (by omega) (by omega) (by omega)
        · rw [if_neg h2, if_neg (fun e => h2 e.2.1), wrapS (by omega)]
          exact loop75 w T L P Q m n hn hT hr hw hw1 (d - 1) (i + 1) k _ _ (by omega) (by omega) (by omega)
      · rw [if_neg h1, if_neg (fun e => h1 e.1), wrapS (by omega)]
        exact loop75 w T L P Q m n hn hT hr hw hw1 (d - 1) (i + 1) k _ _ (by omega) (by omega) (by omega)
    · rw [if_neg (by omega), List.drop_of_length_le (by omega)]
      exact ⟨(_, _), rfl⟩
theorem weights_of {w : List Int} (h : vWeights w = 0) : (1 ≤ w.length ∧ w.length ≤ 4) ∧ ∀ i, i < w.length → weightAt w i := by
  unfold vWeights at h
  split at h
  · rename_i h1
    split at h
    · rename_i h2; exact ⟨h1, fun i hi => h2 i (Nat.zero_le _) hi⟩
    · cases h
  · cases h
theorem round75 (w P Q L : List Int) (hw : vWeights w = 0) (m n : Nat) (hm : m ≤ 2000) (hn : n ≤ m) (hL : L.length = n + 1) :
    ∃ z : Int × Int, impll75_0 KK KK w (m : Int) (P, Q) (tabF w n, L) ((tabF w n).length : Int) (-1) (-1) w (w.length : Int) 0 = some ((P, Q), (tabF w n, L), candF (tabF w n) ((n + 1 : Nat) : Int) (-1) w, z.1, z.2, ()) := by
  obtain ⟨h1, h2⟩ := weights_of hw
  have hlen := tabF_len w n
  have hr := tabF_rng w n
  have := loop75 w (tabF w n) L P Q (m : Int) (n + 1) (by omega) hlen (fun j => ⟨(hr j).1, by have := (hr j).2; omega⟩) (by omega) (fun j hj => (h2 j hj).1) _ 0 KK (-1) (-1) rfl (Nat.zero_le _) (by show w.length - 0 < 1000000; omega)
  rw [hlen]
  exact this
theorem loop75o (w P Q : List Int) (hw : vWeights w = 0) (m : Nat) (hm : m ≤ 2000) : ∀ (d n k : Nat) (L : List Int), m - n = d → n ≤ m → d < k → L.length = n + 1 →
    ∃ L' : List Int, impll75_1000000 KK k w (m : Int) (P, Q) (tabF w n, L) = some (tabF w m, L')
  | d, n, 0, _, _, _, h, _ => by omega
  | d, n, k + 1, L, hd, hn, hk, hL => by
    show ∃ L' : List Int, implb75_1000000 KK (impll75_1000000 KK k) w (m : Int) (P, Q) (tabF w n, L) = _
    unfold implb75_1000000
    have hlen := tabF_len w n
    rw [cdec]
    by_cases h : n < m
    · rw [if_pos (show ((tabF w n).length : Int) ≤ (m : Int) by omega)]
      obtain ⟨z, e⟩ := round75 w P Q L hw m n hm hn hL
      have e : impll75_0 KK KK w (m : Int) ((P, Q).1, (P, Q).2) ((tabF w n, L).1, (tabF w n, L).2) (((tabF w n, L).1.length : Nat) : Int) (-1) (-1) w (w.length : Int) 0 = _ := e
      rw [e]
      have l1 : ∀ v : Int, ((List.replicate 1 (0 : Int)).set 0 v).length = 1 := fun _ => rfl
      simp only [obS]
      rw [if_pos (by rw [l1, hlen]; omega), if_pos (by rw [l1, hL]; omega)]
      exact loop75o w P Q hw m hm (d - 1) (n + 1) k _ (by omega) (by omega) (by omega) (by rw [List.length_append, l1, hL])
    · have : n = m := by omega
      subst this
      rw [if_neg (show ¬ ((tabF w n).length : Int) ≤ (n : Int) by omega)]
      exact ⟨_, rfl⟩
theorem fill75 (w : List Int) (hw : vWeights w = 0) (m : Nat) (hm : m ≤ 2000) : ∃ L' : List Int, implf75 KK w (m : Int) = some (tabF w m, L') := by
  unfold implf75
  have l1 : ∀ v : Int, ((List.replicate 1 (0 : Int)).set 0 v).length = 1 := fun _ => rfl
  rw [cdec, l1]
  by_cases h : 0 < m
  · rw [if_pos (by omega)]
    obtain ⟨z, e⟩ := round75 w [] [] [-1] hw m 0 hm (by omega) rfl
    have e : impll75_0 KK KK w (m : Int) ([], []) ((List.replicate 1 (0 : Int)).set 0 0, (List.replicate 1 (0 : Int)).set 0 (-1)) (Int.ofNat ((List.replicate 1 (0 : Int)).set 0 0).length) (-1) (-1) w (w.length : Int) 0 = _ := e
    rw [l1] at e
    rw [e]
    simp only [obS]
    rw [if_pos (by show (1 + 1) * 8 ≤ 140737488355328; omega), if_pos (by show (1 + 1) * 8 ≤ 140737488355328; omega)]
    obtain ⟨L', e2⟩ := loop75o w [] [] hw m hm _ 1 KK _ rfl (by omega) (by show m - 1 < 1000000; omega) (show ([-1] ++ (List.replicate 1 (0 : Int)).set 0 z.1).length = 2 from rfl)
    have e2 : impll75_1000000 KK KK w (m : Int) ([], []) ([0] ++ (List.replicate 1 (0 : Int)).set 0 (candF (tabF w 0) ((0 + 1 : Nat) : Int) (-1) w), [-1] ++ (List.replicate 1 (0 : Int)).set 0 z.1) = _ := e2
    refine ⟨L', ?_⟩
    show ob (impll75_1000000 KK KK w (m : Int) ([], []) ([0] ++ (List.replicate 1 (0 : Int)).set 0 (candF (tabF w 0) ((0 + 1 : Nat) : Int) (-1) w), [-1] ++ (List.replicate 1 (0 : Int)).set 0 z.1)) _ = _
    rw [e2]; rfl
  · have : m = 0 := by omega
    subst this
    rw [if_neg (by omega)]
    exact ⟨_, rfl⟩
/-- With how few cartridges an amount is made up, if it is. -/
noncomputable def fewF (w : List Int) (m : Nat) : Int × Bool × Int := if (tabF w m).getD m 0 < 0 then (0, false, 0) else ((tabF w m).getD m 0, true, 0)
theorem fewest32 (w : List Int) (hw : vWeights w = 0) (m : Nat) (hm : m ≤ 2000) : implf32 KK w (m : Int) = some (fewF w m) := by
  obtain ⟨h1, -⟩ := weights_of hw
  unfold implf32 implf74
  rw [weights86 w (by omega), hw, w105]
  obtain ⟨L', e⟩ := fill75 w hw m hm
  have hlen := tabF_len w m
  simp only [obS, ibne, cnot, cdec, if_true]
  rw [if_pos (show (0 : Int) ≤ m ∧ (m : Int) ≤ 2000 by omega)]
  simp only [obS, e, eq_self, if_true]
  rw [if_pos (show (0 : Int) ≤ m ∧ (m : Int) < ((tabF w m).length : Int) by omega), Int.toNat_natCast]
  unfold fewF
  by_cases h : (tabF w m).getD m 0 < 0
  · rw [if_neg (by omega), if_pos h]
  · rw [if_pos (by omega), if_neg h, if_pos (show (0 : Int) ≤ m ∧ (m : Int) < ((tabF w m).length : Int) by omega)]
theorem at_left (T Z : List Int) (b : Int) (j : Nat) (h : j < T.length) : (T ++ b :: Z).getD j 0 = T.getD j 0 := by
  rw [List.getD_eq_getElem?_getD, List.getElem?_append_left h, ← List.getD_eq_getElem?_getD]
theorem at_mid (T Z : List Int) (b : Int) : (T ++ b :: Z).getD T.length 0 = b := by
  rw [List.getD_eq_getElem?_getD, List.getElem?_append_right (Nat.le_refl _)]; simp
theorem set_mid (T Z : List Int) (b v : Int) : (T ++ b :: Z).set T.length v = T ++ v :: Z := by
  rw [List.set_append_right _ _ (Nat.le_refl _)]; simp
theorem loop163 (w T Z : List Int) (m : Int) (n : Nat) (hn : n ≤ 5000) (hT : T.length = n) (hr : ∀ j, -1 ≤ T.getD j 0 ∧ T.getD j 0 ≤ 5000) (hw : w.length ≤ 1000) (hw1 : ∀ j, j < w.length → 1 ≤ w.getD j 0 ∧ w.getD j 0 ≤ 30) :
    ∀ (d i k : Nat) (best : Int), w.length - i = d → i ≤ w.length → d < k → -1 ≤ best ∧ best ≤ 5001 →
    impll163_2 KK k w m (T ++ best :: Z) (n : Int) (i : Int) = some (T ++ candF T (n : Int) best (w.drop i) :: Z, (w.length : Int), ())
  | d, i, 0, _, _, _, h, _ => by omega
  | d, i, k + 1, best, hd, hi, hk, hb => by
    show implb163_2 KK (impll163_2 KK k) w m _ _ _ = _
    unfold implb163_2
    simp only [cdec]
    by_cases h : i < w.length
    · have hwi := hw1 i h
      have hdr := drop_getD (w := w) (j := i) 0 h
      have hlen : (T ++ best :: Z).length = n + 1 + Z.length := by simp [hT]; omega
      obtain ⟨c, hc⟩ : ∃ c, c = w.getD i 0 := ⟨_, rfl⟩
      rw [Int.toNat_natCast, Int.toNat_natCast, ← hc]
      rw [← hc] at hwi hdr
      rw [hdr]
      unfold candF
      have hti := hr ((n : Int) - c).toNat
      rw [wrapI (n := (n : Int) - c) (by omega) (by omega)]
      have hmid : (T ++ best :: Z).getD n 0 = best := by rw [← hT]; exact at_mid T Z best
      have hset : ∀ v, (T ++ best :: Z).set n v = T ++ v :: Z := fun v => by rw [← hT]; exact set_mid T Z best v
      rw [hmid]
      simp only [hset]
      rw [if_pos (show (i : Int) < (w.length : Int) by omega), if_pos (show (0 : Int) ≤ (i : Int) ∧ (i : Int) < (w.length : Int) by omega)]
      by_cases h1 : c ≤ (n : Int)
      · have hleft : (T ++ best :: Z).getD ((n : Int) - c).toNat 0 = T.getD ((n : Int) - c).toNat 0 := at_left T Z best _ (by omega)
        rw [hleft]
        obtain ⟨v, hv⟩ : ∃ v, v = T.getD ((n : Int) - c).toNat 0 := ⟨_, rfl⟩
        rw [← hv] at hti ⊢
        have g1 : (0 : Int) ≤ (i : Int) ∧ (i : Int) < (w.length : Int) := by omega
        have g2 : (0 : Int) ≤ (n : Int) - c ∧ (n : Int) - c < ((T ++ best :: Z).length : Int) := by rw [hlen]; omega
        have g3 : (0 : Int) ≤ (n : Int) ∧ (n : Int) < ((T ++ best :: Z).length : Int) := by rw [hlen]; omega
        rw [wrapI (n := v + 1) (by omega) (by omega), wrapI (n := best - 1) (by omega) (by omega), wrapS (show i ≤ 1000000000 by omega)]
        simp only [h1, g1, g2, g3, and_self, if_true, true_and]
        by_cases h2 : v ≥ 0
        · simp only [h2, if_true, true_and]
          by_cases h3 : best < 0
          · simp only [h3, if_true, true_or]
            exact loop163 w T Z m n hn hT hr hw hw1 (d - 1) (i + 1) k _ (by omega) (by omega) (by omega) (by omega)
          · simp only [h3, if_false, false_or]
            by_cases h4 : v + 1 < best
            · simp only [h4, show v < best - 1 by omega, if_true]
              exact loop163 w T Z m n hn hT hr hw hw1 (d - 1) (i + 1) k _ (by omega) (by omega) (by omega) (by omega)
            · simp only [h4, show ¬ v < best - 1 by omega, if_false]
              exact loop163 w T Z m n hn hT hr hw hw1 (d - 1) (i + 1) k _ (by omega) (by omega) (by omega) hb
        · simp only [h2, if_false, false_and]
          exact loop163 w T Z m n hn hT hr hw hw1 (d - 1) (i + 1) k _ (by omega) (by omega) (by omega) hb
      · rw [if_neg h1, if_neg (fun e => h1 e.1), wrapS (by omega)]
        exact loop163 w T Z m n hn hT hr hw hw1 (d - 1) (i + 1) k _ (by omega) (by omega) (by omega) hb
    · rw [if_neg (by omega), List.drop_of_length_le (by omega)]
      have : i = w.length := by omega
      rw [this]; rfl
theorem loop163o (w : List Int) (hw : vWeights w = 0) (m : Nat) (hm : m ≤ 2000) : ∀ (d n k : Nat), m - n = d → n ≤ m → d < k →
    impll163_0 KK k w (m : Int) (tabF w n ++ List.replicate (m - n) 0) ((n + 1 : Nat) : Int) = some (tabF w m, ((m + 1 : Nat) : Int), ())
  | d, n, 0, _, _, h => by omega
  | d, n, k + 1, hd, hn, hk => by
    show implb163_0 KK (impll163_0 KK k) w (m : Int) _ _ = _
    unfold implb163_0
    obtain ⟨h1, h2⟩ := weights_of hw
    have hlen := tabF_len w n
    have hr := tabF_rng w n
    rw [cdec]
    by_cases h : n < m
    · have hz : List.replicate (m - n) (0 : Int) = 0 :: List.replicate (m - (n + 1)) 0 := by
        rw [show m - n = (m - (n + 1)) + 1 by omega, List.replicate_succ]
      rw [if_pos (by omega), if_pos (by rw [List.length_append, List.length_replicate]; omega), hz, Int.toNat_natCast]
      have hs : (tabF w n ++ 0 :: List.replicate (m - (n + 1)) 0).set (n + 1) (-1) = tabF w n ++ (-1) :: List.replicate (m - (n + 1)) 0 := by
        rw [← hlen]; exact set_mid _ _ _ _
      rw [hs]
      have hin := loop163 w (tabF w n) (List.replicate (m - (n + 1)) 0) (m : Int) (n + 1) (by omega) hlen (fun j => ⟨(hr j).1, by have := (hr j).2; omega⟩) (by omega) (fun j hj => (h2 j hj).1) _ 0 KK (-1) rfl (Nat.zero_le _) (by show w.length - 0 < 1000000; omega) (by omega)
      have hin : impll163_2 KK KK w (m : Int) (tabF w n ++ (-1) :: List.replicate (m - (n + 1)) 0) ((n + 1 : Nat) : Int) 0 = some (tabF w n ++ candF (tabF w n) ((n + 1 : Nat) : Int) (-1) w :: List.replicate (m - (n + 1)) 0, (w.length : Int), ()) := hin
      rw [hin]
      show impll163_0 KK k w (m : Int) (tabF w n ++ candF (tabF w n) ((n + 1 : Nat) : Int) (-1) w :: List.replicate (m - (n + 1)) 0) (IntKind.i64.wrap (((n + 1 : Nat) : Int) + 1)) = _
      rw [wrapS (by omega)]
      have hT : tabF w n ++ candF (tabF w n) ((n + 1 : Nat) : Int) (-1) w :: List.replicate (m - (n + 1)) 0 = tabF w (n + 1) ++ List.replicate (m - (n + 1)) 0 := by
        simp [tabF]
      rw [hT]
      exact loop163o w hw m hm (d - 1) (n + 1) k (by omega) (by omega) (by omega)
    · have : n = m := by omega
      subst this
      rw [if_neg (by omega), Nat.sub_self]
      simp
theorem fewest140 (w : List Int) (hw : vWeights w = 0) (m : Nat) (hm : m ≤ 2000) : implf140 KK w (m : Int) = some (fewF w m) := by
  obtain ⟨h1, -⟩ := weights_of hw
  unfold implf140 implf162
  rw [weights82 w (by omega), hw, w113]
  have hlen := tabF_len w m
  have e : implf163 KK w (m : Int) = some (tabF w m) := by
    unfold implf163
    rw [wrapS (show m ≤ 1000000000 by omega), if_pos (by omega), Int.toNat_natCast]
    have := loop163o w hw m hm _ 0 KK rfl (Nat.zero_le _) (by show m - 0 < 1000000; omega)
    have hz : tabF w 0 ++ List.replicate (m - 0) (0 : Int) = List.replicate (m + 1) 0 := by
      rw [List.replicate_succ]; rfl
    rw [hz] at this
    have this : impll163_0 KK KK w (m : Int) (List.replicate (m + 1) 0) 1 = _ := this
    rw [this]; rfl
  simp only [obS, ibne, cnot, cdec, if_true]
  rw [if_pos (show (0 : Int) ≤ m ∧ (m : Int) ≤ 2000 by omega)]
  simp only [obS, e, eq_self, if_true]
  rw [if_pos (show (0 : Int) ≤ m ∧ (m : Int) < ((tabF w m).length : Int) by omega), Int.toNat_natCast]
  unfold fewF
  by_cases h : (tabF w m).getD m 0 < 0
  · rw [if_pos h, if_pos h]
  · rw [if_neg h, if_neg h]
/-- The other numbers of a station are in their bounds. -/
structure Rich (M : Nat) (x : Sv) : Prop where
  c0 : 0 ≤ x.stock
  c1 : x.stock ≤ 500
  m0 : 0 ≤ x.amount
  m1 : x.amount ≤ M
  u0 : 0 ≤ x.used
  u1 : x.used ≤ M
  p0 : 0 ≤ x.pumped
  p1 : x.pumped ≤ M
  k0 : 0 ≤ x.stocked
  k1 : x.stocked ≤ M
/-- What firing an amount off does: an error, and what is then. -/
noncomputable def fireF (w : List Int) (n : Nat) (x : Sv) : Int × Sv :=
  if n = 0 ∨ 2000 < n then (1, x) else if (tabF w n).getD n 0 < 0 then (6, x) else if x.stock < (tabF w n).getD n 0 then (10, x)
  else (0, { x with stock := x.stock - (tabF w n).getD n 0, amount := x.amount + n, used := x.used + (tabF w n).getD n 0 })
theorem fire138 (m : Int × Int) (t w : List Int) (b : Box) (hw : vWeights w = 0) (n : Nat) {M : Nat} (hM : M ≤ 1000000000) {x : Sv} (hx : Rich M x) (x0 : Sv) :
    implf138 KK (stnOf m t w b x0) (stOf x) (n : Int) = some ((fireF w n x).1, stOf (fireF w n x).2) := by
  have h1 := hx.c0; have h2 := hx.c1; have h3 := hx.m0; have h4 := hx.m1; have h5 := hx.u0; have h6 := hx.u1
  unfold implf138 fireF
  rw [ibeq, cdec, cdec]
  by_cases e0 : n = 0
  · rw [if_pos (show (n : Int) = 0 by omega), if_pos (.inl e0)]
  · rw [if_neg (show ¬ (n : Int) = 0 by omega)]
    by_cases e1 : 2000 < n
    · rw [if_pos (show (n : Int) > 2000 by omega), if_pos (.inr e1)]
    · rw [if_neg (show ¬ (n : Int) > 2000 by omega), if_neg (by omega)]
      have hf := fewest32 w hw n (by omega)
      have hr := tabF_rng w n n
      show ob (implf32 KK w (n : Int)) _ = _
      rw [hf]
      unfold fewF
      obtain ⟨v, hv⟩ : ∃ v, v = (tabF w n).getD n 0 := ⟨_, rfl⟩
      rw [← hv] at hr ⊢
      by_cases e2 : v < 0
      · rw [if_pos e2, if_pos e2]; rfl
      · rw [if_neg e2, if_neg e2]
        show (bif decide (v > x.stock) then _ else _) = _
        rw [cdec]
        by_cases e3 : x.stock < v
        · rw [if_pos e3, if_pos e3]
        · rw [if_neg (show ¬ v > x.stock from e3), if_neg e3]
          show some (0, x.hour, x.fog, x.state, x.air, IntKind.i64.wrap (x.stock - v), x.foggy, x.sounded, x.missed, IntKind.i64.wrap (x.amount + n), IntKind.i64.wrap (x.used + v), x.pumped, x.stocked, x.orders) = _
          rw [wrapI (n := x.stock - v) (by omega) (by omega), wrapI (n := x.amount + n) (by omega) (by omega), wrapI (n := x.used + v) (by omega) (by omega)]
          rfl
theorem fire111 (w : List Int) (b : Box) (need : Int) (hw : vWeights w = 0) (n : Nat) {M : Nat} (hM : M ≤ 1000000000) {x : Sv} (hx : Rich M x) :
    implf111 KK (refOf w b need x) (n : Int) = some ((fireF w n x).1, refOf w b need (fireF w n x).2) := by
  have h1 := hx.c0; have h2 := hx.c1; have h3 := hx.m0; have h4 := hx.m1; have h5 := hx.u0; have h6 := hx.u1
  unfold implf111 fireF
  rw [cdec, cdec]
  by_cases e0 : n = 0
  · rw [if_pos (show (n : Int) < 1 by omega), if_pos (.inl e0)]
  · rw [if_neg (show ¬ (n : Int) < 1 by omega)]
    by_cases e1 : 2000 < n
    · rw [if_pos (show (n : Int) > 2000 by omega), if_pos (.inr e1)]
    · rw [if_neg (show ¬ (n : Int) > 2000 by omega), if_neg (by omega)]
      have hf := fewest140 w hw n (by omega)
      have hr := tabF_rng w n n
      show ob (implf140 KK w (n : Int)) _ = _
      rw [hf]
      unfold fewF
      obtain ⟨v, hv⟩ : ∃ v, v = (tabF w n).getD n 0 := ⟨_, rfl⟩
      rw [← hv] at hr ⊢
      by_cases e2 : v < 0
      · rw [if_pos e2, if_pos e2]; rfl
      · rw [if_neg e2, if_neg e2]
        show (bif decide (x.stock < v) then _ else _) = _
        rw [cdec]
        by_cases e3 : x.stock < v
        · rw [if_pos e3, if_pos e3]
        · rw [if_neg e3, if_neg e3]
          have w1 : IntKind.i64.wrap (x.stock - v) = x.stock - v := wrapI (by omega) (by omega)
          have w2 : IntKind.i64.wrap (x.amount + n) = x.amount + n := wrapI (by omega) (by omega)
          have w3 : IntKind.i64.wrap (x.used + v) = x.used + v := wrapI (by omega) (by omega)
          simp only [refOf, w1, w2, w3]
/-- What an order does: an error, and what is then. -/
noncomputable def exeF (w : List Int) (b : Box) (need : Int) (k : Int) (n : Nat) (x : Sv) : Int × Sv :=
  if k = 0 then (if x.fog = true then (5, x) else (0, { x with fog := true }))
  else if k = 1 then (if x.fog = true then (0, { x with fog := false }) else (8, x))
  else if k = 2 then (if n = 0 then (1, x) else if x.air + n > 500 then (3, x) else (0, { x with air := x.air + n, pumped := x.pumped + n }))
  else if k = 3 then (if n < 1 ∨ 99 < n then (1, x) else (0, hoursF b need n x))
  else if k = 4 then (if n = 0 then (1, x) else if x.stock + n > 500 then (3, x) else (0, { x with stock := x.stock + n, stocked := x.stocked + n }))
  else if k = 5 then fireF w n x
  else if b.2.length ≤ n then (4, x) else if (n : Int) = x.state then (5, x) else (0, { x with state := n })
theorem exe103 (m : Int × Int) (t w : List Int) (b : Box) (ht : vTone t = 0) (hw : vWeights w = 0) (hb : vBox b = 0) {N M : Nat} (hN : N ≤ 90000000) (hM : M ≤ 900000000) {x : Sv} (hx : Fine b N x) (hy : Rich M x) (x0 : Sv) (k : Int) (hk : 0 ≤ k ∧ k ≤ 6) (n : Nat) (hn : n ≤ 9999) :
    implf103 KK (stnOf m t w b x0) (stOf x) (k, (n : Int)) = some ((exeF w b (needF t) k n x).1, stOf (exeF w b (needF t) k n x).2) := by
  have h1 := hx.a0; have h2 := hx.a1; have h3 := hy.c0; have h4 := hy.c1; have h5 := hy.p0; have h6 := hy.p1; have h7 := hy.k0; have h8 := hy.k1
  unfold implf103 exeF
  simp only [ibeq, cdec]
  by_cases k0 : k = 0
  · rw [if_pos k0, if_pos k0]
    show (bif x.fog then _ else _) = _
    cases hf : x.fog with
    | true => simp [stOf, hf]
    | false => simp [stOf, hf]
  · rw [if_neg k0, if_neg k0]
    by_cases k1 : k = 1
    · rw [if_pos k1, if_pos k1]
      show (bif !x.fog then _ else _) = _
      cases hf : x.fog with
      | true => simp [stOf, hf]
      | false => simp [stOf, hf]
    · rw [if_neg k1, if_neg k1]
      by_cases k2 : k = 2
      · rw [if_pos k2, if_pos k2]
        by_cases e0 : n = 0
        · rw [if_pos (show (n : Int) = 0 by omega), if_pos e0]
        · rw [if_neg (show ¬ (n : Int) = 0 by omega), if_neg e0]
          have w1 : IntKind.i64.wrap (x.air + n) = x.air + n := wrapI (by omega) (by omega)
          have w2 : IntKind.i64.wrap (x.pumped + n) = x.pumped + n := wrapI (by omega) (by omega)
          simp only [stOf, w1, w2]
          by_cases e1 : x.air + n > 500
          · rw [if_pos e1, if_pos e1]
          · rw [if_neg e1, if_neg e1]
      · rw [if_neg k2, if_neg k2]
        by_cases k3 : k = 3
        · rw [if_pos k3, if_pos k3]
          by_cases e0 : n < 1
          · rw [if_pos (show (n : Int) < 1 by omega), if_pos (.inl e0)]
          · rw [if_neg (show ¬ (n : Int) < 1 by omega)]
            by_cases e1 : 99 < n
            · rw [if_pos (show (n : Int) > 99 by omega), if_pos (.inr e1)]
            · rw [if_neg (show ¬ (n : Int) > 99 by omega), if_neg (by omega)]
              have hl := loop103 m t w b ht hb x0 n n 0 KK N x (by omega) (Nat.zero_le _) (by omega) (by omega) (by show n < 1000000; omega) hx (fun y M hy hM => pass137 m t w b ht hb hM hy x0)
              have hl : impll103_1 KK KK (stnOf m t w b x0) (stOf x) (n : Int) 0 = _ := hl
              rw [hl]; rfl
        · rw [if_neg k3, if_neg k3]
          by_cases k4 : k = 4
          · rw [if_pos k4, if_pos k4]
            by_cases e0 : n = 0
            · rw [if_pos (show (n : Int) = 0 by omega), if_pos e0]
            · rw [if_neg (show ¬ (n : Int) = 0 by omega), if_neg e0]
              have w1 : IntKind.i64.wrap (x.stock + n) = x.stock + n := wrapI (by omega) (by omega)
              have w2 : IntKind.i64.wrap (x.stocked + n) = x.stocked + n := wrapI (by omega) (by omega)
              simp only [stOf, w1, w2]
              by_cases e1 : x.stock + n > 500
              · rw [if_pos e1, if_pos e1]
              · rw [if_neg e1, if_neg e1]
          · rw [if_neg k4, if_neg k4]
            by_cases k5 : k = 5
            · rw [if_pos k5, if_pos k5, fire138 m t w b hw n (by omega) hy x0]
              rfl
            · rw [if_neg k5, if_neg k5, if_pos (show k = 6 by omega)]
              show (if (n : Int) ≥ (b.2.length : Int) then _ else _) = _
              by_cases e0 : b.2.length ≤ n
              · rw [if_pos (show (n : Int) ≥ (b.2.length : Int) by omega), if_pos e0]
              · rw [if_neg (show ¬ (n : Int) ≥ (b.2.length : Int) by omega), if_neg e0]
                show (if (n : Int) = x.state then _ else _) = _
                by_cases e1 : (n : Int) = x.state
                · rw [if_pos e1, if_pos e1]
                · rw [if_neg e1, if_neg e1]; rfl
theorem wait110 (w t : List Int) (b : Box) (ht : vTone t = 0) (hb : vBox b = 0) {N : Nat} (hN : N ≤ 90000000) {x : Sv} (hx : Fine b N x) (n : Nat) :
    implf110 KK (refOf w b (needF t) x) (n : Int) = some (if n < 1 ∨ 99 < n then (1, refOf w b (needF t) x) else (0, refOf w b (needF t) (hoursF b (needF t) n x))) := by
  unfold implf110
  rw [cdec, cdec]
  by_cases e0 : n < 1
  · rw [if_pos (show (n : Int) < 1 by omega), if_pos (.inl e0)]
  · rw [if_neg (show ¬ (n : Int) < 1 by omega)]
    by_cases e1 : 99 < n
    · rw [if_pos (show (n : Int) > 99 by omega), if_pos (.inr e1)]
    · rw [if_neg (show ¬ (n : Int) > 99 by omega), if_neg (by omega)]
      have hl := loop110 w t b ht hb n n 0 KK N x (by omega) (Nat.zero_le _) (by omega) (by omega) (by show n < 1000000; omega) hx
      have hl : impll110_0 KK KK (refOf w b (needF t) x) (n : Int) 0 = _ := hl
      show ob (impll110_0 KK KK (refOf w b (needF t) x) (n : Int) 0) _ = _
      rw [hl]; rfl
theorem exe80 (t w : List Int) (b : Box) (ht : vTone t = 0) (hw : vWeights w = 0) (hb : vBox b = 0) {N M : Nat} (hN : N ≤ 90000000) (hM : M ≤ 900000000) {x : Sv} (hx : Fine b N x) (hy : Rich M x) (h : ByteArray) (k : Int) (wn : Bool) (hk : kindF h = some (k, wn)) (n : Nat) (hn : n ≤ 9999) :
    implf80 KK (refOf w b (needF t) x) (h, (n : Int)) = some ((exeF w b (needF t) k n x).1, refOf w b (needF t) (exeF w b (needF t) k n x).2) := by
  have h1 := hx.a0; have h2 := hx.a1; have h3 := hy.c0; have h4 := hy.c1
  have w1 : IntKind.i64.wrap (x.air + n) = x.air + n := wrapI (by omega) (by omega)
  have w2 : IntKind.i64.wrap (x.stock + n) = x.stock + n := wrapI (by omega) (by omega)
  unfold implf80
  simp only [beqB, ibeq, cdec]
  unfold kindF at hk
  by_cases c0 : h = wFog
  · rw [if_pos c0] at hk; cases hk
    have hE : exeF w b (needF t) 0 n x = (if x.fog = true then (5, x) else (0, { x with fog := true })) := rfl
    rw [if_pos c0, hE]
    show (bif x.fog then _ else _) = _
    cases hf : x.fog <;> simp [refOf, hf]
  · rw [if_neg c0] at hk ⊢
    by_cases c1 : h = wClear
    · rw [if_pos c1] at hk; cases hk
      have hE : exeF w b (needF t) 1 n x = (if x.fog = true then (0, { x with fog := false }) else (8, x)) := rfl
      rw [if_pos c1, hE]
      show (bif !x.fog then _ else _) = _
      cases hf : x.fog <;> simp [refOf, hf]
    · rw [if_neg c1] at hk ⊢
      by_cases c2 : h = wPump
      · rw [if_pos c2] at hk; cases hk
        have hE : exeF w b (needF t) 2 n x = (if n = 0 then (1, x) else if x.air + n > 500 then (3, x) else (0, { x with air := x.air + n, pumped := x.pumped + n })) := rfl
        rw [if_pos c2, hE]
        by_cases e0 : n = 0
        · rw [if_pos (show (n : Int) = 0 by omega), if_pos e0]
        · rw [if_neg (show ¬ (n : Int) = 0 by omega), if_neg e0]
          simp only [refOf, w1]
          by_cases e1 : x.air + n > 500
          · rw [if_pos e1, if_pos e1]
          · rw [if_neg e1, if_neg e1]
      · rw [if_neg c2] at hk ⊢
        by_cases c3 : h = wWait
        · rw [if_pos c3] at hk; cases hk
          subst c3
          have hE : exeF w b (needF t) 3 n x = (if n < 1 ∨ 99 < n then (1, x) else (0, hoursF b (needF t) n x)) := rfl
          rw [hE, if_neg (show ¬ wWait = wStock by decide), if_neg (show ¬ wWait = wSet by decide), if_pos rfl]
          show ob (implf110 KK (refOf w b (needF t) x) (n : Int)) _ = _
          rw [wait110 w t b ht hb hN hx]
          by_cases e0 : n < 1 ∨ 99 < n
          · rw [if_pos e0, if_pos e0]; rfl
          · rw [if_neg e0, if_neg e0]; rfl
        · rw [if_neg c3] at hk
          by_cases c4 : h = wStock
          · rw [if_pos c4] at hk; cases hk
            have hE : exeF w b (needF t) 4 n x = (if n = 0 then (1, x) else if x.stock + n > 500 then (3, x) else (0, { x with stock := x.stock + n, stocked := x.stocked + n })) := rfl
            rw [if_pos c4, hE]
            by_cases e0 : n = 0
            · rw [if_pos (show (n : Int) = 0 by omega), if_pos e0]
            · rw [if_neg (show ¬ (n : Int) = 0 by omega), if_neg e0]
              simp only [refOf, w2]
              by_cases e1 : x.stock + n > 500
              · rw [if_pos e1, if_pos e1]
              · rw [if_neg e1, if_neg e1]
          · rw [if_neg c4] at hk ⊢
            by_cases c5 : h = wFire
            · rw [if_pos c5] at hk; cases hk
              subst c5
              have hE : exeF w b (needF t) 5 n x = fireF w n x := rfl
              rw [hE, if_neg (show ¬ wFire = wSet by decide), if_neg (show ¬ wFire = wWait by decide)]
              show ob (implf111 KK (refOf w b (needF t) x) (n : Int)) _ = _
              rw [fire111 w b (needF t) hw n (by omega) hy]; rfl
            · rw [if_neg c5] at hk
              by_cases c6 : h = wSet
              · rw [if_pos c6] at hk; cases hk
                have hE : exeF w b (needF t) 6 n x = (if b.2.length ≤ n then (4, x) else if (n : Int) = x.state then (5, x) else (0, { x with state := n })) := rfl
                rw [if_pos c6, hE]
                show (if (n : Int) ≥ (b.2.length : Int) then _ else _) = _
                by_cases e0 : b.2.length ≤ n
                · rw [if_pos (show (n : Int) ≥ (b.2.length : Int) by omega), if_pos e0]
                · rw [if_neg (show ¬ (n : Int) ≥ (b.2.length : Int) by omega), if_neg e0]
                  show (if (n : Int) = x.state then _ else _) = _
                  by_cases e1 : (n : Int) = x.state
                  · rw [if_pos e1, if_pos e1]
                  · rw [if_neg e1, if_neg e1]; rfl
              · rw [if_neg c6] at hk; cases hk
end Go.Proofs.YtbpjodikknbcoaaGreatDoor
