/- Texts and their sums. -/
import Derived.Test.YtbpjodikknbcoaaGreatDoorF8
set_option maxRecDepth 100000
set_option linter.unusedVariables false
set_option linter.unusedSimpArgs false
namespace Go.Proofs.YtbpjodikknbcoaaGreatDoor
open Go Go.Pv

abbrev KK : Nat := 1000000
theorem sane : implf27 KK = some true := by kernel_rfl

abbrev by_ (a : ByteArray) : List UInt8 := a.data.toList
theorem beqB (a b : ByteArray) : (a.toList == b.toList) = decide (a = b) := by
  rw [ByteArray.toList_eq, ByteArray.toList_eq]
  by_cases h : a = b
  · subst h; simp
  · have : a.data.toList ≠ b.data.toList := fun e => h (ByteArray.ext (Array.ext' e))
    rw [decide_eq_false h]; exact beq_eq_false_iff_ne.2 this
theorem by_ext {a b : ByteArray} (h : by_ a = by_ b) : a = b := ByteArray.ext (Array.ext' h)
theorem by_len (a : ByteArray) : (by_ a).length = a.size := rfl
theorem by_app (a b : ByteArray) : by_ (a ++ b) = by_ a ++ by_ b := by simp [by_]
theorem by_ext_cut (a : ByteArray) (i j : Nat) : by_ (a.extract i j) = ((by_ a).take j).drop i := by
  simp only [by_, ByteArray.data_extract, Array.toList_extract, List.extract_eq_drop_take']
theorem bt_at {a : ByteArray} {i : Nat} (h : i < a.size) : bt a (i : Int) = ((by_ a).getD i 0).toNat := by
  unfold bt
  have h' : (i : Int).toNat < a.size := by simpa using h
  rw [dif_pos h']
  have : (by_ a).getD i 0 = a[i] := by
    rw [List.getD_eq_getElem?_getD, List.getElem?_eq_getElem (by rw [by_len]; exact h)]
    rfl
  rw [this]
  rfl

/-- A round of a sum. -/
def sumS (s : Int) (c : UInt8) : Int := (s * 257 + c.toNat + 1) % 1000003
/-- The sum of a number and a text. -/
def sumF (b : Int) (l : List UInt8) : Int := l.foldl sumS (b % 1000003)
theorem sumS_rng (s : Int) (c : UInt8) : 0 ≤ sumS s c ∧ sumS s c < 1000003 := ⟨Int.emod_nonneg _ (by decide), Int.emod_lt_of_pos _ (by decide)⟩
theorem fold_rng : ∀ (l : List UInt8) (s : Int), 0 ≤ s ∧ s < 1000003 → 0 ≤ l.foldl sumS s ∧ l.foldl sumS s < 1000003
  | [], s, h => h
  | c :: r, s, h => fold_rng r _ (sumS_rng s c)
theorem sumF_rng (b : Int) (l : List UInt8) : 0 ≤ sumF b l ∧ sumF b l < 1000003 := fold_rng l _ ⟨Int.emod_nonneg _ (by decide), Int.emod_lt_of_pos _ (by decide)⟩
theorem round_eq {s : Int} (h : 0 ≤ s ∧ s < 1000003) (c : UInt8) :
    (IntKind.i64.wrap (IntKind.i64.wrap (IntKind.i64.wrap (s * (257 : Int)) + IntKind.i64.wrap ((c.toNat : Nat) : Int)) + (1 : Int))).tmod (1000003 : Int) = sumS s c := by
  have hc : c.toNat < 256 := c.toNat_lt
  rw [wrapI (n := s * 257) (by omega) (by omega), wrapI (n := ((c.toNat : Nat) : Int)) (by omega) (by omega), wrapI (n := s * 257 + _) (by omega) (by omega), wrapI (by omega) (by omega)]
  rw [Int.tmod_eq_emod_of_nonneg (by omega)]
  rfl

theorem loop46 (t : ByteArray) (ht : t.size ≤ 100000) (s : Int) (hs : 0 ≤ s ∧ s < 1000003) (K : Nat) (hK : t.size < K) (K' : Nat) :
    ∃ i, impll46_0 K' K t s (t.size : Int) 0 = some ((by_ t).foldl sumS s, i, ()) := by
  have key := upto (fun k (p : Int × Nat) => impll46_0 K' k t p.1 (t.size : Int) (p.2 : Int)) (fun j => (((by_ t).take j).foldl sumS s, j)) t.size ((by_ t).foldl sumS s, (t.size : Int), ())
    (fun k j hj => by
      have hr := fold_rng ((by_ t).take j) s hs
      show implb46_0 K' (impll46_0 K' k) t _ _ _ = _
      unfold implb46_0
      rw [cdec, if_pos (by omega), if_pos (by omega), bt_at hj, round_eq hr, wrapS (by omega)]
      show impll46_0 K' k t _ _ _ = impll46_0 K' k t _ _ _
      rw [take_getD 0 (by rw [by_len]; exact hj), List.foldl_append]
      rfl)
    (fun k => by
      show implb46_0 K' (impll46_0 K' k) t _ _ _ = _
      unfold implb46_0
      rw [cdec, if_neg (by omega), List.take_of_length_le (by rw [by_len]; exact Nat.le_refl _)])
  exact ⟨_, by simpa using key K 0 (by omega) (by omega)⟩

theorem loop47 (t : ByteArray) (ht : t.size ≤ 100000) (s : Int) (hs : 0 ≤ s ∧ s < 1000003) (K : Nat) (hK : t.size < K) (K' : Nat) :
    ∃ i, impll47_0 K' K t s 0 = some ((by_ t).foldl sumS s, i, ()) := by
  have key := upto (fun k (p : Int × Nat) => impll47_0 K' k t p.1 (p.2 : Int)) (fun j => (((by_ t).take j).foldl sumS s, j)) t.size ((by_ t).foldl sumS s, (t.size : Int), ())
    (fun k j hj => by
      have hr := fold_rng ((by_ t).take j) s hs
      show implb47_0 K' (impll47_0 K' k) t _ _ = _
      unfold implb47_0
      rw [cdec, if_pos (by omega), if_pos (by omega), bt_at hj, round_eq hr, wrapS (by omega)]
      show impll47_0 K' k t _ _ = impll47_0 K' k t _ _
      rw [take_getD 0 (by rw [by_len]; exact hj), List.foldl_append]
      rfl)
    (fun k => by
      show implb47_0 K' (impll47_0 K' k) t _ _ = _
      unfold implb47_0
      rw [cdec, if_neg (by omega), List.take_of_length_le (by rw [by_len]; exact Nat.le_refl _)])
  exact ⟨_, by simpa using key K 0 (by omega) (by omega)⟩
theorem tmod_rng (b : Int) : -1000003 < b.tmod 1000003 ∧ b.tmod 1000003 < 1000003 := by
  have := Int.tmod_lt_of_pos b (show (0 : Int) < 1000003 by decide)
  have := Int.tmod_lt_of_pos (-b) (show (0 : Int) < 1000003 by decide)
  rw [Int.neg_tmod] at this
  omega
theorem tmod_emod (b : Int) : b.tmod 1000003 % 1000003 = b % 1000003 := by
  have h := Int.tmod_add_mul_tdiv b 1000003
  conv => rhs; rw [← h]
  rw [Int.add_mul_emod_self_left]
theorem sum46 (b : Int) (t : ByteArray) (ht : t.size ≤ 100000) : implf46 KK b t = some (sumF b (by_ t)) := by
  have hr := tmod_rng b
  have he := tmod_emod b
  unfold implf46
  rw [cdec]
  by_cases hb : b.tmod 1000003 < 0
  · rw [if_pos hb]
    rw [wrapI (by omega) (by omega)]
    have : b.tmod 1000003 + 1000003 = b % 1000003 := by omega
    rw [this]
    obtain ⟨i, e⟩ := loop46 t ht (b % 1000003) ⟨Int.emod_nonneg _ (by decide), Int.emod_lt_of_pos _ (by decide)⟩ KK (by show t.size < 1000000; omega) KK
    rw [e]; rfl
  · rw [if_neg hb]
    have : b.tmod 1000003 = b % 1000003 := by omega
    rw [this]
    obtain ⟨i, e⟩ := loop46 t ht (b % 1000003) ⟨Int.emod_nonneg _ (by decide), Int.emod_lt_of_pos _ (by decide)⟩ KK (by show t.size < 1000000; omega) KK
    rw [e]; rfl
theorem sum47 (b : Int) (t : ByteArray) (ht : t.size ≤ 100000) : implf47 KK b t = some (sumF b (by_ t)) := by
  have hr := tmod_rng b
  have he := tmod_emod b
  unfold implf47
  rw [wrapI (by omega) (by omega)]
  have : (b.tmod 1000003 + 1000003).tmod 1000003 = b % 1000003 := by
    rw [Int.tmod_eq_emod_of_nonneg (by omega)]
    omega
  rw [this]
  obtain ⟨i, e⟩ := loop47 t ht (b % 1000003) ⟨Int.emod_nonneg _ (by decide), Int.emod_lt_of_pos _ (by decide)⟩ KK (by show t.size < 1000000; omega) KK
  rw [e]; rfl

/-! ### May a text stand in a book? -/
def okText (l : List UInt8) : Bool := decide (1 ≤ l.length) && decide (l.length ≤ 40) && !l.contains 10
theorem index_ge : ∀ (l : List UInt8) (c : UInt8), -1 ≤ Lib.indexByte l c
  | [], _ => Int.le_refl (-1)
  | x :: r, c => by
    have := index_ge r c
    unfold Lib.indexByte
    split
    · decide
    · split
      · decide
      · omega
theorem index_contains : ∀ (l : List UInt8) (c : UInt8), decide (0 ≤ Lib.indexByte l c) = l.contains c
  | [], _ => rfl
  | x :: r, c => by
    have ih := index_contains r c
    have hg := index_ge r c
    unfold Lib.indexByte
    rw [List.contains_cons]
    by_cases h : x = c
    · subst h; simp
    · have h1 : (x == c) = false := beq_eq_false_iff_ne.2 h
      have h2 : (c == x) = false := beq_eq_false_iff_ne.2 (Ne.symm h)
      rw [h1, h2, Bool.false_or, ← ih]
      by_cases h3 : Lib.indexByte r c = -1
      · rw [h3]; rfl
      · have h4 : (Lib.indexByte r c == -1) = false := beq_eq_false_iff_ne.2 h3
        rw [h4]
        simp only [Bool.false_eq_true, if_false]
        congr 1
        apply propext
        omega
theorem text65 (t : ByteArray) : implf65 KK t = some (okText (by_ t)) := by
  unfold implf65 implf96 okText
  simp only [cdec]
  by_cases h1 : (t.size : Int) ≥ 1
  · rw [if_pos h1]
    by_cases h2 : (t.size : Int) ≤ 40
    · rw [if_pos h2, if_pos (by omega)]
      show ob (some (decide (0 ≤ Lib.indexByte t.data.toList 10))) _ = _
      rw [index_contains]
      have a1 : 1 ≤ (by_ t).length := by rw [by_len]; omega
      have a2 : (by_ t).length ≤ 40 := by rw [by_len]; omega
      rw [decide_eq_true a1, decide_eq_true a2]
      show some _ = some _
      cases (by_ t).contains 10 <;> rfl
    · rw [if_neg h2]
      have a2 : ¬ (by_ t).length ≤ 40 := by rw [by_len]; omega
      rw [decide_eq_false a2]; simp
  · rw [if_neg h1]
    have a2 : ¬ 1 ≤ (by_ t).length := by rw [by_len]; omega
    rw [decide_eq_false a2]; simp

theorem loop84 (t : ByteArray) (ht : t.size ≤ 100000) : (∃ i, impll84_0 KK KK t 0 = some (.inl (i, ())) ∧ (by_ t).contains 10 = false) ∨ (impll84_0 KK KK t 0 = some (.inr false) ∧ (by_ t).contains 10 = true) := by
  have key := uptoAll (fun k (p : Nat) => impll84_0 KK k t (p : Int)) (fun j => j) t.size (fun j => (by_ t).getD j 0 ≠ 10) (Sum.inl ((t.size : Int), ())) (Sum.inr false)
    (fun k j hj hp => by
      show implb84_0 KK (impll84_0 KK k) t _ = _
      unfold implb84_0
      have hne : bt t (j : Int) ≠ 10 := by
        rw [bt_at hj]; intro e; apply hp
        have e : ((by_ t).getD j 0).toNat = 10 := by omega
        exact UInt8.toNat.inj e
      rw [cdec, if_pos (by omega), if_pos (by omega), ibeq, decide_eq_false hne, wrapS (by omega)]
      rfl)
    (fun k j hj hp => by
      show implb84_0 KK (impll84_0 KK k) t _ = _
      unfold implb84_0
      have he : bt t (j : Int) = 10 := by
        rw [bt_at hj]
        have : (by_ t).getD j 0 = 10 := Classical.not_not.1 hp
        rw [this]; rfl
      rw [cdec, if_pos (by omega), if_pos (by omega), ibeq, decide_eq_true he]
      rfl)
    (fun k => by
      show implb84_0 KK (impll84_0 KK k) t _ = _
      unfold implb84_0
      rw [cdec, if_neg (by omega)])
  have key := key KK 0 (by show t.size - 0 < 1000000; omega) (Nat.zero_le _)
  have hall : (∀ i, 0 ≤ i → i < t.size → (by_ t).getD i 0 ≠ 10) ↔ (by_ t).contains 10 = false := by
    constructor
    · intro h
      rw [← Bool.not_eq_true, List.contains_iff_mem]
      intro hm
      obtain ⟨i, hi, e⟩ := List.mem_iff_getElem.1 hm
      exact h i (Nat.zero_le _) (by rw [← by_len]; exact hi) (by rw [List.getD_eq_getElem?_getD, List.getElem?_eq_getElem hi]; exact e)
    · intro h i _ hi e
      have : (10 : UInt8) ∈ by_ t := by
        rw [← e]
        exact getD_mem 0 (by rw [by_len]; exact hi)
      rw [← List.contains_iff_mem, h] at this
      cases this
  by_cases hc : (by_ t).contains 10 = false
  · rw [if_pos (hall.2 hc)] at key
    exact .inl ⟨_, key, hc⟩
  · rw [if_neg (fun h => hc (hall.1 h))] at key
    exact .inr ⟨key, by simpa using hc⟩
theorem text84 (t : ByteArray) (ht : t.size ≤ 100000) : implf84 KK t = some (okText (by_ t)) := by
  unfold implf84 okText
  rcases loop84 t ht with ⟨i, e, hc⟩ | ⟨e, hc⟩
  · rw [e, hc]
    show (bif decide ((t.size : Int) ≥ 1) then some (decide ((t.size : Int) ≤ 40)) else some false) = _
    rw [by_len, cdec]
    by_cases h1 : (t.size : Int) ≥ 1
    · rw [if_pos h1, decide_eq_true (show 1 ≤ t.size by omega)]
      by_cases h2 : (t.size : Int) ≤ 40
      · rw [decide_eq_true h2, decide_eq_true (show t.size ≤ 40 by omega)]; rfl
      · rw [decide_eq_false h2, decide_eq_false (show ¬ t.size ≤ 40 by omega)]; rfl
    · rw [if_neg h1, decide_eq_false (show ¬ 1 ≤ t.size by omega)]; rfl
  · rw [e, hc]
    show some false = _
    simp

end Go.Proofs.YtbpjodikknbcoaaGreatDoor
