/- Rows of rows, each in a block of its own. -/
import Derived.Test.YtdgibokmaannjaaPi
/- What the document's rows are, step by step. -/
set_option linter.unusedVariables false
set_option linter.unusedSimpArgs false
namespace Go.Pv
/-- May place j stand behind a row? -/
def extC (bt : List Int) (e : Int) (r : List Int) (j : Nat) : Bool :=
  decide (r.getD (r.length - 1) 0 < bt.getD j 0) && (decide (bt.getD j 0 < e) && (Nat.beq j 0 || decide (bt.getD (j - 1) 0 < bt.getD j 0)))
/-- The rows that the first places make of a row. -/
def extTo (bt : List Int) (e : Int) (r : List Int) : Nat → List (List Int)
  | 0 => []
  | m + 1 => extTo bt e r m ++ cond (extC bt e r m) [r ++ [bt.getD m 0]] []
/-- The rows that all places make of the first rows. -/
def stepTo (bt : List Int) (e : Int) (out : List (List Int)) : Nat → List (List Int)
  | 0 => []
  | k + 1 => stepTo bt e out k ++ extTo bt e (out.getD k []) bt.length
def rowsG (bt : List Int) (e : Int) : Nat → List (List Int) → Option (List (List Int))
  | 0, out => cond (Nat.ble out.length 100000) (some out) none
  | n + 1, out => cond (Nat.ble out.length 100000) (rowsG bt e n (stepTo bt e out out.length)) none
/-- The first k rows ended. -/
def endTo (e : Int) (out : List (List Int)) (k : Nat) : List (List Int) := (out.take k).map (fun r => r ++ [e]) ++ out.drop k
/-- What rows computes; it says nothing of very many rows. -/
def rowsF (bt : List Int) (count e : Int) : Option (List (List Int)) :=
  cond (Nat.ble bt.length 1000 && decide (count ≤ 1000)) (match rowsG bt e count.toNat [[0]] with | some out => some (out.map fun r => r ++ [e]) | none => none) none

theorem endTo_zero (e : Int) (out : List (List Int)) : endTo e out 0 = out := rfl
theorem endTo_all (e : Int) (out : List (List Int)) : endTo e out out.length = out.map fun r => r ++ [e] := by
  unfold endTo; rw [List.take_length, List.drop_length, List.append_nil]
theorem endTo_succ (e : Int) {out : List (List Int)} {k : Nat} {r : List Int} (h : out[k]? = some r) : (endTo e out k).set k (r ++ [e]) = endTo e out (k + 1) := by
  have hk : k < out.length := by
    rcases Nat.lt_or_ge k out.length with g | g
    · exact g
    · rw [List.getElem?_eq_none g] at h; cases h
  unfold endTo
  have e1 : out.drop k = r :: out.drop (k + 1) := by
    rw [List.drop_eq_getElem_cons hk]
    rw [List.getElem?_eq_getElem hk] at h
    cases h; rfl
  have e2 : out.take (k + 1) = out.take k ++ [r] := by rw [List.take_add_one, h]; rfl
  rw [e1, e2, List.map_append, List.append_assoc]
  have hl : ((out.take k).map fun r => r ++ [e]).length = k := by rw [List.length_map, List.length_take]; omega
  rw [List.set_append_right _ _ (by omega), hl, Nat.sub_self]
  rfl
theorem endTo_get (e : Int) {out : List (List Int)} {k : Nat} (hk : k < out.length) : (endTo e out k)[k]? = out[k]? := by
  unfold endTo
  have hl : ((out.take k).map fun r => r ++ [e]).length = k := by rw [List.length_map, List.length_take]; omega
  rw [List.getElem?_append_right (by omega), hl, Nat.sub_self, List.getElem?_drop]
  rfl
theorem endTo_len (e : Int) (out : List (List Int)) (k : Nat) : (endTo e out k).length = out.length := by
  unfold endTo
  rw [List.length_append, List.length_map, List.length_take, List.length_drop]
  omega
theorem rowsG_len {bt : List Int} {e : Int} : ∀ {n : Nat} {out r : List (List Int)}, rowsG bt e n out = some r → out.length ≤ 100000
  | 0, out, r, h => by
    rw [rowsG] at h
    cases hb : Nat.ble out.length 100000 with
    | true => exact Nat.le_of_ble_eq_true hb
    | false => rw [hb] at h; cases h
  | n + 1, out, r, h => by
    rw [rowsG] at h
    cases hb : Nat.ble out.length 100000 with
    | true => exact Nat.le_of_ble_eq_true hb
    | false => rw [hb] at h; cases h
/-- Every row that is made is one longer, and no more than the places make of a row. -/
theorem extTo_len (bt : List Int) (e : Int) (r : List Int) : ∀ m, (extTo bt e r m).length ≤ m ∧ ∀ x ∈ extTo bt e r m, x.length = r.length + 1
  | 0 => ⟨Nat.le_refl _, fun x hx => by cases hx⟩
  | m + 1 => by
    obtain ⟨h1, h2⟩ := extTo_len bt e r m
    rw [extTo]
    cases extC bt e r m with
    | true =>
      refine ⟨by rw [List.length_append]; exact Nat.add_le_add h1 (Nat.le_refl 1), fun x hx => ?_⟩
      rcases List.mem_append.1 hx with hx | hx
      · exact h2 x hx
      · have hx : x ∈ [r ++ [bt.getD m 0]] := hx
        rw [List.mem_singleton] at hx
        rw [hx, List.length_append]; rfl
    | false =>
      refine ⟨by rw [List.length_append]; exact Nat.le_succ_of_le h1, fun x hx => ?_⟩
      rcases List.mem_append.1 hx with hx | hx
      · exact h2 x hx
      · cases hx
end Go.Pv

/- The document's rows: which they are, and that they stand in ascending order. -/
set_option linter.unusedVariables false
set_option linter.unusedSimpArgs false
namespace Go.Pv

theorem extTo_mem {bt : List Int} {e : Int} {r x : List Int} : ∀ {m : Nat}, x ∈ extTo bt e r m ↔ ∃ j, j < m ∧ extC bt e r j = true ∧ x = r ++ [bt.getD j 0]
  | 0 => ⟨fun h => (by cases h), fun ⟨j, hj, _⟩ => absurd hj (Nat.not_lt_zero _)⟩
  | m + 1 => by
    have ih := extTo_mem (bt := bt) (e := e) (r := r) (x := x) (m := m)
    rw [extTo, List.mem_append, ih]
    constructor
    · rintro (⟨j, hj, h1, h2⟩ | h)
      · exact ⟨j, Nat.lt_succ_of_lt hj, h1, h2⟩
      · cases hc : extC bt e r m with
        | true =>
          rw [hc] at h
          have h : x ∈ [r ++ [bt.getD m 0]] := h
          exact ⟨m, Nat.lt_succ_self _, hc, List.mem_singleton.1 h⟩
        | false => rw [hc] at h; cases h
    · rintro ⟨j, hj, h1, h2⟩
      rcases Nat.lt_or_ge j m with g | g
      · exact .inl ⟨j, g, h1, h2⟩
      · have : j = m := by omega
        subst this
        refine .inr ?_
        rw [h1]
        exact List.mem_singleton.2 h2
theorem stepTo_mem {bt : List Int} {e : Int} {out : List (List Int)} {x : List Int} : ∀ {k : Nat}, x ∈ stepTo bt e out k ↔ ∃ i, i < k ∧ x ∈ extTo bt e (out.getD i []) bt.length
  | 0 => ⟨fun h => (by cases h), fun ⟨j, hj, _⟩ => absurd hj (Nat.not_lt_zero _)⟩
  | k + 1 => by
    rw [stepTo, List.mem_append, stepTo_mem (k := k)]
    constructor
    · rintro (⟨i, hi, h⟩ | h)
      · exact ⟨i, Nat.lt_succ_of_lt hi, h⟩
      · exact ⟨k, Nat.lt_succ_self _, h⟩
    · rintro ⟨i, hi, h⟩
      rcases Nat.lt_or_ge i k with g | g
      · exact .inl ⟨i, g, h⟩
      · have : i = k := by omega
        subst this
        exact .inr h

/-- A row from 0 on that ascends, its places among the list and below the end. -/
def RowOf (bt : List Int) (e : Int) (n : Nat) (r : List Int) : Prop := r.length = n + 1 ∧ r.getD 0 0 = 0 ∧ (∀ i, i + 1 < r.length → r.getD i 0 < r.getD (i + 1) 0) ∧ ∀ i, i + 1 < r.length → r.getD (i + 1) 0 ∈ bt ∧ r.getD (i + 1) 0 < e
theorem getD_snoc {r : List Int} {x : Int} {i : Nat} : (r ++ [x]).getD i 0 = if i < r.length then r.getD i 0 else if i = r.length then x else 0 := by
  simp only [List.getD_eq_getElem?_getD]
  by_cases h : i < r.length
  · rw [if_pos h, List.getElem?_append_left h]
  · rw [if_neg h, List.getElem?_append_right (by omega)]
    by_cases g : i = r.length
    · rw [if_pos g, g, Nat.sub_self]; rfl
    · rw [if_neg g, List.getElem?_eq_none (by simp; omega)]; rfl
theorem RowOf.snoc {bt : List Int} {e : Int} {n : Nat} {r : List Int} {x : Int} : RowOf bt e (n + 1) (r ++ [x]) ↔ RowOf bt e n r ∧ r.getD (r.length - 1) 0 < x ∧ x ∈ bt ∧ x < e := by
  constructor
  · rintro ⟨h1, h2, h3, h4⟩
    have hl : r.length = n + 1 := by rw [List.length_append] at h1; simpa using h1
    have hL : (r ++ [x]).length = r.length + 1 := by rw [List.length_append]; rfl
    have g : ∀ i, i < r.length → (r ++ [x]).getD i 0 = r.getD i 0 := fun i hi => by rw [getD_snoc, if_pos hi]
    have gx : (r ++ [x]).getD r.length 0 = x := by rw [getD_snoc, if_neg (Nat.lt_irrefl _), if_pos rfl]
    have q := h3 (r.length - 1) (by omega)
    have q2 := h4 (r.length - 1) (by omega)
    have e1 : r.length - 1 + 1 = r.length := by omega
    rw [e1, gx, g _ (by omega)] at q
    rw [e1, gx] at q2
    refine ⟨⟨hl, by rw [← g 0 (by omega)]; exact h2, fun i hi => ?_, fun i hi => ?_⟩, q, q2.1, q2.2⟩
    · have := h3 i (by omega)
      rwa [g i (by omega), g (i + 1) (by omega)] at this
    · have := h4 i (by omega)
      rwa [g (i + 1) (by omega)] at this
  · rintro ⟨⟨h1, h2, h3, h4⟩, h5, h6, h7⟩
    have hL : (r ++ [x]).length = r.length + 1 := by rw [List.length_append]; rfl
    have g : ∀ i, i < r.length → (r ++ [x]).getD i 0 = r.getD i 0 := fun i hi => by rw [getD_snoc, if_pos hi]
    have gx : (r ++ [x]).getD r.length 0 = x := by rw [getD_snoc, if_neg (Nat.lt_irrefl _), if_pos rfl]
    refine ⟨by omega, by rw [g 0 (by omega)]; exact h2, fun i hi => ?_, fun i hi => ?_⟩
    · rw [g i (by omega)]
      by_cases q : i + 1 < r.length
      · rw [g (i + 1) q]; exact h3 i q
      · have : i + 1 = r.length := by omega
        rw [this, gx]
        have e2 : i = r.length - 1 := by omega
        rw [e2]; exact h5
    · by_cases q : i + 1 < r.length
      · rw [g (i + 1) q]; exact h4 i q
      · have : i + 1 = r.length := by omega
        rw [this, gx]; exact ⟨h6, h7⟩
/-- The first place of a number in a list that ascends (equal neighbours let by). -/
theorem first_at {bt : List Int} (hs : ∀ i, i + 1 < bt.length → bt.getD i 0 ≤ bt.getD (i + 1) 0) {x : Int} (hx : x ∈ bt) : ∃ j, j < bt.length ∧ bt.getD j 0 = x ∧ (j = 0 ∨ bt.getD (j - 1) 0 < x) := by
  obtain ⟨i, hi, e⟩ := List.mem_iff_getElem.1 hx
  have e : bt.getD i 0 = x := by rw [List.getD_eq_getElem?_getD, List.getElem?_eq_getElem hi, e]; rfl
  induction i with
  | zero => exact ⟨0, hi, e, .inl rfl⟩
  | succ i ih =>
    have h := hs i hi
    by_cases g : bt.getD i 0 = x
    · exact ih (by omega) (by rw [List.getD_eq_getElem?_getD, List.getElem?_eq_getElem (by omega)] at g; exact g) g
    · exact ⟨i + 1, hi, e, .inr (by rw [Nat.add_sub_cancel]; omega)⟩
theorem extC_iff {bt : List Int} {e : Int} {r : List Int} {j : Nat} : extC bt e r j = true ↔ r.getD (r.length - 1) 0 < bt.getD j 0 ∧ bt.getD j 0 < e ∧ (j = 0 ∨ bt.getD (j - 1) 0 < bt.getD j 0) := by
  unfold extC
  simp only [Bool.and_eq_true, Bool.or_eq_true, decide_eq_true_eq, Nat.beq_eq]
/-- The rows are those, and no others. -/
theorem rowsG_mem {bt : List Int} (hs : ∀ i, i + 1 < bt.length → bt.getD i 0 ≤ bt.getD (i + 1) 0) {e : Int} : ∀ {n m : Nat} {out res : List (List Int)}, (∀ x, x ∈ out ↔ RowOf bt e m x) → rowsG bt e n out = some res → ∀ x, x ∈ res ↔ RowOf bt e (m + n) x
  | 0, m, out, res, ho, h => by
    rw [rowsG] at h
    cases hb : Nat.ble out.length 100000 with
    | true => rw [hb] at h; cases h; exact ho
    | false => rw [hb] at h; cases h
  | n + 1, m, out, res, ho, h => by
    rw [rowsG] at h
    cases hb : Nat.ble out.length 100000 with
    | false => rw [hb] at h; cases h
    | true =>
      rw [hb] at h
      have key : ∀ x, x ∈ stepTo bt e out out.length ↔ RowOf bt e (m + 1) x := by
        intro x
        rw [stepTo_mem]
        constructor
        · rintro ⟨i, hi, hx⟩
          obtain ⟨j, hj, hc, rfl⟩ := extTo_mem.1 hx
          obtain ⟨c1, c2, -⟩ := extC_iff.1 hc
          have hm : out.getD i [] ∈ out := by
            rw [List.getD_eq_getElem?_getD, List.getElem?_eq_getElem hi]; exact List.getElem_mem hi
          have hb : bt.getD j 0 ∈ bt := by
            rw [List.getD_eq_getElem?_getD, List.getElem?_eq_getElem hj]; exact List.getElem_mem hj
          exact RowOf.snoc.2 ⟨(ho _).1 hm, c1, hb, c2⟩
        · intro hx
          rcases List.eq_nil_or_concat x with rfl | ⟨r, y, rfl⟩
          · have := hx.1; simp at this
          · rw [List.concat_eq_append] at hx ⊢
            obtain ⟨h1, h2, h3, h4⟩ := RowOf.snoc.1 hx
            obtain ⟨i, hi, ei⟩ := List.mem_iff_getElem.1 ((ho r).2 h1)
            obtain ⟨j, hj, ej, hf⟩ := first_at hs h3
            refine ⟨i, hi, extTo_mem.2 ⟨j, hj, ?_, ?_⟩⟩
            · have e1 : out.getD i [] = r := by rw [List.getD_eq_getElem?_getD, List.getElem?_eq_getElem hi, ei]; rfl
              rw [e1]
              exact extC_iff.2 ⟨by rw [ej]; exact h2, by rw [ej]; exact h4, hf.imp id fun q => by rw [ej]; exact q⟩
            · rw [List.getD_eq_getElem?_getD, List.getElem?_eq_getElem hi, ei, ej]; rfl
      have := rowsG_mem hs (n := n) (m := m + 1) key h
      intro x
      rw [this x, show m + 1 + n = m + (n + 1) by omega]
end Go.Pv

/- The document's rows stand in ascending order; how many they are. -/
set_option linter.unusedVariables false
set_option linter.unusedSimpArgs false
namespace Go.Pv

def ltL : List Int → List Int → Prop
  | a :: x, b :: y => a < b ∨ (a = b ∧ ltL x y)
  | _, _ => False
theorem ltL_app : ∀ {r s : List Int} (x y : List Int), r.length = s.length → ltL r s → ltL (r ++ x) (s ++ y)
  | [], _, x, y, _, h => by simp [ltL] at h
  | a :: r, [], x, y, hl, h => by simp at hl
  | a :: r, b :: s, x, y, hl, h => by
    have h : a < b ∨ (a = b ∧ ltL r s) := h
    show a < b ∨ (a = b ∧ ltL (r ++ x) (s ++ y))
    exact h.imp id fun ⟨e, g⟩ => ⟨e, ltL_app x y (by simpa using hl) g⟩
theorem ltL_same : ∀ (r : List Int) {x y : Int}, x < y → ltL (r ++ [x]) (r ++ [y])
  | [], x, y, h => .inl h
  | a :: r, x, y, h => .inr ⟨rfl, ltL_same r h⟩
theorem ltL_ne : ∀ {x y : List Int}, ltL x y → x ≠ y
  | a :: x, b :: y, h, e => by
    have h : a < b ∨ (a = b ∧ ltL x y) := h
    obtain ⟨e1, e2⟩ := List.cons.inj e
    rcases h with h | ⟨_, h⟩
    · omega
    · exact ltL_ne h e2
theorem mono_le {bt : List Int} (hs : ∀ i, i + 1 < bt.length → bt.getD i 0 ≤ bt.getD (i + 1) 0) {i : Nat} : ∀ {k : Nat}, i + k < bt.length → bt.getD i 0 ≤ bt.getD (i + k) 0
  | 0, _ => Int.le_refl _
  | k + 1, h => Int.le_trans (mono_le hs (k := k) (by omega)) (hs (i + k) h)
theorem extTo_asc {bt : List Int} (hs : ∀ i, i + 1 < bt.length → bt.getD i 0 ≤ bt.getD (i + 1) 0) (e : Int) (r : List Int) : ∀ {m : Nat}, m ≤ bt.length → (extTo bt e r m).Pairwise ltL
  | 0, _ => .nil
  | m + 1, hm => by
    rw [extTo, List.pairwise_append]
    refine ⟨extTo_asc hs e r (by omega), ?_, fun x hx y hy => ?_⟩
    · cases extC bt e r m with
      | true => exact List.pairwise_cons.2 ⟨fun y hy => (by cases hy), List.Pairwise.nil⟩
      | false => exact List.Pairwise.nil
    · obtain ⟨j, hj, hc, rfl⟩ := extTo_mem.1 hx
      cases hc2 : extC bt e r m with
      | false => rw [hc2] at hy; cases hy
      | true =>
        rw [hc2] at hy
        have hy : y ∈ [r ++ [bt.getD m 0]] := hy
        rw [List.mem_singleton.1 hy]
        refine ltL_same r ?_
        obtain ⟨-, -, h3⟩ := extC_iff.1 hc2
        rcases h3 with h3 | h3
        · omega
        · have := mono_le hs (i := j) (k := m - 1 - j) (by omega)
          have e1 : j + (m - 1 - j) = m - 1 := by omega
          rw [e1] at this
          omega
theorem pair_get {out : List (List Int)} (h : out.Pairwise ltL) {i k : Nat} (hik : i < k) (hk : k < out.length) : ltL (out.getD i []) (out.getD k []) := by
  have h1 : out.getD i [] = out[i] := by rw [List.getD_eq_getElem?_getD, List.getElem?_eq_getElem (by omega)]; rfl
  have h2 : out.getD k [] = out[k] := by rw [List.getD_eq_getElem?_getD, List.getElem?_eq_getElem hk]; rfl
  rw [h1, h2]
  exact List.pairwise_iff_getElem.1 h i k (by omega) hk hik
theorem stepTo_asc {bt : List Int} (hs : ∀ i, i + 1 < bt.length → bt.getD i 0 ≤ bt.getD (i + 1) 0) (e : Int) {out : List (List Int)} (ho : out.Pairwise ltL) {n : Nat} (hl : ∀ r ∈ out, r.length = n) : ∀ {k : Nat}, k ≤ out.length → (stepTo bt e out k).Pairwise ltL
  | 0, _ => .nil
  | k + 1, hk => by
    rw [stepTo, List.pairwise_append]
    refine ⟨stepTo_asc hs e ho hl (by omega), extTo_asc hs e _ (Nat.le_refl _), fun x hx y hy => ?_⟩
    obtain ⟨i, hi, hx⟩ := stepTo_mem.1 hx
    obtain ⟨j, -, -, rfl⟩ := extTo_mem.1 hx
    obtain ⟨j', -, -, rfl⟩ := extTo_mem.1 hy
    have gm : ∀ q, q < out.length → (out.getD q []).length = n := fun q hq => hl _ (by rw [List.getD_eq_getElem?_getD, List.getElem?_eq_getElem hq]; exact List.getElem_mem hq)
    exact ltL_app _ _ (by rw [gm i (by omega), gm k (by omega)]) (pair_get ho hi (by omega))
theorem stepTo_lens {bt : List Int} {e : Int} {out : List (List Int)} {n : Nat} (hl : ∀ r ∈ out, r.length = n) : ∀ x ∈ stepTo bt e out out.length, x.length = n + 1 := by
  intro x hx
  obtain ⟨i, hi, hx⟩ := stepTo_mem.1 hx
  obtain ⟨j, -, -, rfl⟩ := extTo_mem.1 hx
  rw [List.length_append, hl _ (by rw [List.getD_eq_getElem?_getD, List.getElem?_eq_getElem hi]; exact List.getElem_mem hi)]
  rfl
theorem rowsG_asc {bt : List Int} (hs : ∀ i, i + 1 < bt.length → bt.getD i 0 ≤ bt.getD (i + 1) 0) (e : Int) : ∀ {n m : Nat} {out res : List (List Int)}, out.Pairwise ltL → (∀ r ∈ out, r.length = m) → rowsG bt e n out = some res → res.Pairwise ltL ∧ ∀ r ∈ res, r.length = m + n
  | 0, m, out, res, ho, hl, h => by
    rw [rowsG] at h
    cases hb : Nat.ble out.length 100000 with
    | true => rw [hb] at h; cases h; exact ⟨ho, hl⟩
    | false => rw [hb] at h; cases h
  | n + 1, m, out, res, ho, hl, h => by
    rw [rowsG] at h
    cases hb : Nat.ble out.length 100000 with
    | false => rw [hb] at h; cases h
    | true =>
      rw [hb] at h
      have := rowsG_asc hs e (n := n) (m := m + 1) (stepTo_asc hs e ho hl (Nat.le_refl _)) (stepTo_lens hl) h
      rw [show m + (n + 1) = m + 1 + n by omega]
      exact this
theorem stepTo_len (bt : List Int) (e : Int) (out : List (List Int)) : ∀ k, (stepTo bt e out k).length ≤ k * bt.length
  | 0 => Nat.zero_le _
  | k + 1 => by
    rw [stepTo, List.length_append, Nat.succ_mul]
    exact Nat.add_le_add (stepTo_len bt e out k) (extTo_len bt e _ bt.length).1
/-- Few places, few steps: they are not too many. -/
theorem rowsG_some {bt : List Int} (e : Int) {M : Nat} (hb : bt.length ≤ M) (hM : 1 ≤ M) : ∀ {n : Nat} {out : List (List Int)}, out.length * M ^ n ≤ 100000 → ∃ res, rowsG bt e n out = some res
  | 0, out, h => by
    refine ⟨out, ?_⟩
    rw [rowsG, Nat.ble_eq_true_of_le (by simpa using h)]
    rfl
  | n + 1, out, h => by
    have h1 : out.length ≤ out.length * M ^ (n + 1) := Nat.le_mul_of_pos_right _ (Nat.pow_pos hM)
    rw [rowsG, Nat.ble_eq_true_of_le (by omega)]
    refine rowsG_some e hb hM (n := n) ?_
    have h2 := stepTo_len bt e out out.length
    have h3 : out.length * bt.length ≤ out.length * M := Nat.mul_le_mul_left _ hb
    have h4 : (stepTo bt e out out.length).length * M ^ n ≤ out.length * M * M ^ n := Nat.mul_le_mul_right _ (Nat.le_trans h2 h3)
    have e1 : out.length * M * M ^ n = out.length * M ^ (n + 1) := by rw [Nat.pow_succ, Nat.mul_assoc, Nat.mul_comm M]
    omega
/-- Lists that ascend strictly and have the same members are equal. -/
theorem asc_unique {α : Type} {R : α → α → Prop} (asym : ∀ a b, R a b → R b a → False) : ∀ {A B : List α}, A.Pairwise R → B.Pairwise R → (∀ x, x ∈ A ↔ x ∈ B) → A = B
  | [], [], _, _, _ => rfl
  | [], b :: B, _, _, h => absurd ((h b).2 List.mem_cons_self) (by simp)
  | a :: A, [], _, _, h => absurd ((h a).1 List.mem_cons_self) (by simp)
  | a :: A, b :: B, hA, hB, h => by
    obtain ⟨a1, a2⟩ := List.pairwise_cons.1 hA
    obtain ⟨b1, b2⟩ := List.pairwise_cons.1 hB
    have hab : a = b := by
      rcases List.mem_cons.1 ((h a).1 List.mem_cons_self) with g | g
      · exact g
      · rcases List.mem_cons.1 ((h b).2 List.mem_cons_self) with q | q
        · exact q.symm
        · exact (asym a b (a1 b q) (b1 a g)).elim
    subst hab
    have ha : a ∉ A := fun g => asym a a (a1 a g) (a1 a g)
    have hb : a ∉ B := fun g => asym a a (b1 a g) (b1 a g)
    rw [asc_unique asym a2 b2 fun x => ?_]
    have hx := h x
    rw [List.mem_cons, List.mem_cons] at hx
    constructor
    · intro g
      rcases hx.1 (.inr g) with q | q
      · subst q; exact absurd g ha
      · exact q
    · intro g
      rcases hx.2 (.inr g) with q | q
      · subst q; exact absurd g hb
      · exact q
theorem ltL_asym : ∀ (x y : List Int), ltL x y → ltL y x → False
  | a :: x, b :: y, h, g => by
    have h : a < b ∨ (a = b ∧ ltL x y) := h
    have g : b < a ∨ (b = a ∧ ltL y x) := g
    rcases h with h | ⟨e, h⟩
    · rcases g with g | ⟨e, _⟩
      · omega
      · omega
    · rcases g with g | ⟨_, g⟩
      · omega
      · exact ltL_asym x y h g
/-- The first row of all. -/
theorem RowOf.first (bt : List Int) (e : Int) (x : List Int) : x ∈ [[(0 : Int)]] ↔ RowOf bt e 0 x := by
  rw [List.mem_singleton]
  constructor
  · rintro rfl
    exact ⟨rfl, rfl, fun i hi => by simp at hi, fun i hi => by simp at hi⟩
  · rintro ⟨h1, h2, -⟩
    cases x with
    | nil => simp at h1
    | cons a r =>
      have : r = [] := List.eq_nil_of_length_eq_zero (by simpa using h1)
      subst this
      have h2 : a = 0 := h2
      rw [h2]
end Go.Pv
