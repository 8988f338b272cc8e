/- The mathematics of stations, part 1. -/
import Derived.Test.YtbpjodikknbcoaaGreatDoorFm4
import Derived.Lib.IndexBytes
set_option maxRecDepth 1000000
set_option linter.unusedVariables false
set_option linter.unusedSimpArgs false
namespace Go.Proofs.YtbpjodikknbcoaaGreatDoor
open Go Go.Pv
abbrev KK : Nat := 1000000
theorem sane : implf27 KK = some true := by kernel_rfl

abbrev by_ (a : ByteArray) : List UInt8 := a.data.toList
theorem beqB (a b : ByteArray) : (a.toList == b.toList) = decide (a = b) := by
  rw [ByteArray.toList_eq, ByteArray.toList_eq]
  by_cases h : a = b
  · subst h; simp
  · have : a.data.toList ≠ b.data.toList := fun e => h (ByteArray.ext (Array.ext' e))
    rw [decide_eq_false h]; exact beq_eq_false_iff_ne.2 this
theorem by_ext {a b : ByteArray} (h : by_ a = by_ b) : a = b := ByteArray.ext (Array.ext' h)
theorem by_len (a : ByteArray) : (by_ a).length = a.size := rfl
theorem by_app (a b : ByteArray) : by_ (a ++ b) = by_ a ++ by_ b := by simp [by_]
theorem by_ext_cut (a : ByteArray) (i j : Nat) : by_ (a.extract i j) = ((by_ a).take j).drop i := by
  simp only [by_, ByteArray.data_extract, Array.toList_extract, List.extract_eq_drop_take']
theorem bt_at {a : ByteArray} {i : Nat} (h : i < a.size) : bt a (i : Int) = ((by_ a).getD i 0).toNat := by
  unfold bt
  have h' : (i : Int).toNat < a.size := by simpa using h
  rw [dif_pos h']
  have : (by_ a).getD i 0 = a[i] := by
    rw [List.getD_eq_getElem?_getD, List.getElem?_eq_getElem (by rw [by_len]; exact h)]
    rfl
  rw [this]
  rfl

/-- A round of a sum. -/
def sumS (s : Int) (c : UInt8) : Int := (s * 257 + c.toNat + 1) % 1000003
/-- The sum of a number and a text. -/
def sumF (b : Int) (l : List UInt8) : Int := l.foldl sumS (b % 1000003)
theorem sumS_rng (s : Int) (c : UInt8) : 0 ≤ sumS s c ∧ sumS s c < 1000003 := ⟨Int.emod_nonneg _ (by decide), Int.emod_lt_of_pos _ (by decide)⟩
theorem fold_rng : ∀ (l : List UInt8) (s : Int), 0 ≤ s ∧ s < 1000003 → 0 ≤ l.foldl sumS s ∧ l.foldl sumS s < 1000003
  | [], s, h => h
  | c :: r, s, h => fold_rng r _ (sumS_rng s c)
theorem sumF_rng (b : Int) (l : List UInt8) : 0 ≤ sumF b l ∧ sumF b l < 1000003 := fold_rng l _ ⟨Int.emod_nonneg _ (by decide), Int.emod_lt_of_pos _ (by decide)⟩
theorem round_eq {s : Int} (h : 0 ≤ s ∧ s < 1000003) (c : UInt8) :
    (IntKind.i64.wrap (IntKind.i64.wrap (IntKind.i64.wrap (s * (257 : Int)) + IntKind.i64.wrap ((c.toNat : Nat) : Int)) + (1 : Int))).tmod (1000003 : Int) = sumS s c := by
  have hc : c.toNat < 256 := c.toNat_lt
  rw [wrapI (n := s * 257) (by omega) (by omega), wrapI (n := ((c.toNat : Nat) : Int)) (by omega) (by omega), wrapI (n := s * 257 + _) (by omega) (by omega), wrapI (by omega) (by omega)]
  rw [Int.tmod_eq_emod_of_nonneg (by omega)]
  rfl

theorem loop46 (t : ByteArray) (ht : t.size ≤ 100000) (s : Int) (hs : 0 ≤ s ∧ s < 1000003) (K : Nat) (hK : t.size < K) (K' : Nat) :
    ∃ i, impll46_0 K' K t s (t.size : Int) 0 = some ((by_ t).foldl sumS s, i, ()) := by
  have key := upto (fun k (p : Int × Nat) => impll46_0 K' k t p.1 (t.size : Int) (p.2 : Int)) (fun j => (((by_ t).take j).foldl sumS s, j)) t.size ((by_ t).foldl sumS s, (t.size : Int), ())
    (fun k j hj => by
      have hr := fold_rng ((by_ t).take j) s hs
      show implb46_0 K' (impll46_0 K' k) t _ _ _ = _
      unfold implb46_0
      rw [cdec, if_pos (by omega), if_pos (by omega), bt_at hj, round_eq hr, wrapS (by omega)]
      show impll46_0 K' k t _ _ _ = impll46_0 K' k t _ _ _
      rw [take_getD 0 (by rw [by_len]; exact hj), List.foldl_append]
      rfl)
    (fun k => by
      show implb46_0 K' (impll46_0 K' k) t _ _ _ = _
      unfold implb46_0
      rw [cdec, if_neg (by omega), List.take_of_length_le (by rw [by_len]; exact Nat.le_refl _)])
  exact ⟨_, by simpa using key K 0 (by omega) (by omega)⟩

theorem loop47 (t : ByteArray) (ht : t.size ≤ 100000) (s : Int) (hs : 0 ≤ s ∧ s < 1000003) (K : Nat) (hK : t.size < K) (K' : Nat) :
    ∃ i, impll47_0 K' K t s 0 = some ((by_ t).foldl sumS s, i, ()) := by
  have key := upto (fun k (p : Int × Nat) => impll47_0 K' k t p.1 (p.2 : Int)) (fun j => (((by_ t).take j).foldl sumS s, j)) t.size ((by_ t).foldl sumS s, (t.size : Int), ())
    (fun k j hj => by
      have hr := fold_rng ((by_ t).take j) s hs
      show implb47_0 K' (impll47_0 K' k) t _ _ = _
      unfold implb47_0
      rw [cdec, if_pos (by omega), if_pos (by omega), bt_at hj, round_eq hr, wrapS (by omega)]
      show impll47_0 K' k t _ _ = impll47_0 K' k t _ _
      rw [take_getD 0 (by rw [by_len]; exact hj), List.foldl_append]
      rfl)
    (fun k => by
      show implb47_0 K' (impll47_0 K' k) t _ _ = _
      unfold implb47_0
      rw [cdec, if_neg (by omega), List.take_of_length_le (by rw [by_len]; exact Nat.le_refl _)])
  exact ⟨_, by simpa using key K 0 (by omega) (by omega)⟩
theorem tmod_rng (b : Int) : -1000003 < b.tmod 1000003 ∧ b.tmod 1000003 < 1000003 := by
  have := Int.tmod_lt_of_pos b (show (0 : Int) < 1000003 by decide)
  have := Int.tmod_lt_of_pos (-b) (show (0 : Int) < 1000003 by decide)
  rw [Int.neg_tmod] at this
  omega
theorem tmod_emod (b : Int) : b.tmod 1000003 % 1000003 = b % 1000003 := by
  have h := Int.tmod_add_mul_tdiv b 1000003
  conv => rhs; rw [← h]
  rw [Int.add_mul_emod_self_left]
theorem sum46 (b : Int) (t : ByteArray) (ht : t.size ≤ 100000) : implf46 KK b t = some (sumF b (by_ t)) := by
  have hr := tmod_rng b
  have he := tmod_emod b
  unfold implf46
  rw [cdec]
  by_cases hb : b.tmod 1000003 < 0
  · rw [if_pos hb]
    rw [wrapI (by omega) (by omega)]
    have : b.tmod 1000003 + 1000003 = b % 1000003 := by omega
    rw [this]
    obtain ⟨i, e⟩ := loop46 t ht (b % 1000003) ⟨Int.emod_nonneg _ (by decide), Int.emod_lt_of_pos _ (by decide)⟩ KK (by show t.size < 1000000; omega) KK
    rw [e]; rfl
  · rw [if_neg hb]
    have : b.tmod 1000003 = b % 1000003 := by omega
    rw [this]
    obtain ⟨i, e⟩ := loop46 t ht (b % 1000003) ⟨Int.emod_nonneg _ (by decide), Int.emod_lt_of_pos _ (by decide)⟩ KK (by show t.size < 1000000; omega) KK
    rw [e]; rfl
theorem sum47 (b : Int) (t : ByteArray) (ht : t.size ≤ 100000) : implf47 KK b t = some (sumF b (by_ t)) := by
  have hr := tmod_rng b
  have he := tmod_emod b
  unfold implf47
  rw [wrapI (by omega) (by omega)]
  have : (b.tmod 1000003 + 1000003).tmod 1000003 = b % 1000003 := by
    rw [Int.tmod_eq_emod_of_nonneg (by omega)]
    omega
  rw [this]
  obtain ⟨i, e⟩ := loop47 t ht (b % 1000003) ⟨Int.emod_nonneg _ (by decide), Int.emod_lt_of_pos _ (by decide)⟩ KK (by show t.size < 1000000; omega) KK
  rw [e]; rfl

def okText (l : List UInt8) : Bool := decide (1 ≤ l.length) && decide (l.length ≤ 40) && !l.contains 10
theorem index_ge : ∀ (l : List UInt8) (c : UInt8), -1 ≤ Lib.indexByte l c
  | [], _ => Int.le_refl (-1)
  | x :: r, c => by
    have := index_ge r c
    unfold Lib.indexByte
    split
    · decide
    · split
      · decide
      · omega
theorem index_contains : ∀ (l : List UInt8) (c : UInt8), decide (0 ≤ Lib.indexByte l c) = l.contains c
  | [], _ => rfl
  | x :: r, c => by
    have ih := index_contains r c
    have hg := index_ge r c
    unfold Lib.indexByte
    rw [List.contains_cons]
    by_cases h : x = c
    · subst h; simp
    · have h1 : (x == c) = false := beq_eq_false_iff_ne.2 h
      have h2 : (c == x) = false := beq_eq_false_iff_ne.2 (Ne.symm h)
      rw [h1, h2, Bool.false_or, ← ih]
      by_cases h3 : Lib.indexByte r c = -1
      · rw [h3]; rfl
      · have h4 : (Lib.indexByte r c == -1) = false := beq_eq_false_iff_ne.2 h3
        rw [h4]
        simp only [Bool.false_eq_true, if_false]
        congr 1
        apply propext
        omega
theorem text65 (t : ByteArray) : implf65 KK t = some (okText (by_ t)) := by
  unfold implf65 implf96 okText
  simp only [cdec]
  by_cases h1 : (t.size : Int) ≥ 1
  · rw [if_pos h1]
    by_cases h2 : (t.size : Int) ≤ 40
    · rw [if_pos h2, if_pos (by omega)]
      show ob (some (decide (0 ≤ Lib.indexByte t.data.toList 10))) _ = _
      rw [index_contains]
      have a1 : 1 ≤ (by_ t).length := by rw [by_len]; omega
      have a2 : (by_ t).length ≤ 40 := by rw [by_len]; omega
      rw [decide_eq_true a1, decide_eq_true a2]
      show some _ = some _
      cases (by_ t).contains 10 <;> rfl
    · rw [if_neg h2]
      have a2 : ¬ (by_ t).length ≤ 40 := by rw [by_len]; omega
      rw [decide_eq_false a2]; simp
  · rw [if_neg h1]
    have a2 : ¬ 1 ≤ (by_ t).length := by rw [by_len]; omega
    rw [decide_eq_false a2]; simp

theorem loop84 (t : ByteArray) (ht : t.size ≤ 100000) : (∃ i, impll84_0 KK KK t 0 = some (.inl (i, ())) ∧ (by_ t).contains 10 = false) ∨ (impll84_0 KK KK t 0 = some (.inr false) ∧ (by_ t).contains 10 = true) := by
  have key := uptoAll (fun k (p : Nat) => impll84_0 KK k t (p : Int)) (fun j => j) t.size (fun j => (by_ t).getD j 0 ≠ 10) (Sum.inl ((t.size : Int), ())) (Sum.inr false)
    (fun k j hj hp => by
      show implb84_0 KK (impll84_0 KK k) t _ = _
      unfold implb84_0
      have hne : bt t (j : Int) ≠ 10 := by
        rw [bt_at hj]; intro e; apply hp
        have e : ((by_ t).getD j 0).toNat = 10 := by omega
        exact UInt8.toNat.inj e
      rw [cdec, if_pos (by omega), if_pos (by omega), ibeq, decide_eq_false hne, wrapS (by omega)]
      rfl)
    (fun k j hj hp => by
      show implb84_0 KK (impll84_0 KK k) t _ = _
      unfold implb84_0
      have he : bt t (j : Int) = 10 := by
        rw [bt_at hj]
        have : (by_ t).getD j 0 = 10 := Classical.not_not.1 hp
        rw [this]; rfl
      rw [cdec, if_pos (by omega), if_pos (by omega), ibeq, decide_eq_true he]
      rfl)
    (fun k => by
      show implb84_0 KK (impll84_0 KK k) t _ = _
      unfold implb84_0
      rw [cdec, if_neg (by omega)])
  have key := key KK 0 (by show t.size - 0 < 1000000; omega) (Nat.zero_le _)
  have hall : (∀ i, 0 ≤ i → i < t.size → (by_ t).getD i 0 ≠ 10) ↔ (by_ t).contains 10 = false := by
    constructor
    · intro h
      rw [← Bool.not_eq_true, List.contains_iff_mem]
      intro hm
      obtain ⟨i, hi, e⟩ := List.mem_iff_getElem.1 hm
      exact h i (Nat.zero_le _) (by rw [← by_len]; exact hi) (by rw [List.getD_eq_getElem?_getD, List.getElem?_eq_getElem hi]; exact e)
    · intro h i _ hi e
      have : (10 : UInt8) ∈ by_ t := by
        rw [← e]
        exact getD_mem 0 (by rw [by_len]; exact hi)
      rw [← List.contains_iff_mem, h] at this
      cases this
  by_cases hc : (by_ t).contains 10 = false
  · rw [if_pos (hall.2 hc)] at key
    exact .inl ⟨_, key, hc⟩
  · rw [if_neg (fun h => hc (hall.1 h))] at key
    exact .inr ⟨key, by simpa using hc⟩
theorem text84 (t : ByteArray) (ht : t.size ≤ 100000) : implf84 KK t = some (okText (by_ t)) := by
  unfold implf84 okText
  rcases loop84 t ht with ⟨i, e, hc⟩ | ⟨e, hc⟩
  · rw [e, hc]
    show (bif decide ((t.size : Int) ≥ 1) then some (decide ((t.size : Int) ≤ 40)) else some false) = _
    rw [by_len, cdec]
    by_cases h1 : (t.size : Int) ≥ 1
    · rw [if_pos h1, decide_eq_true (show 1 ≤ t.size by omega)]
      by_cases h2 : (t.size : Int) ≤ 40
      · rw [decide_eq_true h2, decide_eq_true (show t.size ≤ 40 by omega)]; rfl
      · rw [decide_eq_false h2, decide_eq_false (show ¬ t.size ≤ 40 by omega)]; rfl
    · rw [if_neg h1, decide_eq_false (show ¬ 1 ≤ t.size by omega)]; rfl
  · rw [e, hc]
    show some false = _
    simp

/-- Where a letter stands first; the length, if nowhere. -/
def fi (c : UInt8) : List UInt8 → Nat
  | [] => 0
  | x :: r => if x = c then 0 else fi c r + 1
theorem fi_le (c : UInt8) : ∀ l, fi c l ≤ l.length
  | [] => Nat.le_refl _
  | x :: r => by
    have := fi_le c r
    unfold fi
    split
    · exact Nat.zero_le _
    · simp; omega
theorem fi_ne (c : UInt8) : ∀ (l : List UInt8) (j : Nat), j < fi c l → l.getD j 0 ≠ c
  | [], j, h => by simp [fi] at h
  | x :: r, j, h => by
    unfold fi at h
    split at h
    · omega
    · rename_i hx
      cases j with
      | zero => simpa using hx
      | succ j => simpa using fi_ne c r j (by omega)
theorem fi_at (c : UInt8) : ∀ (l : List UInt8), fi c l < l.length → l.getD (fi c l) 0 = c
  | [], h => by simp at h
  | x :: r, h => by
    unfold fi at h ⊢
    split
    · rename_i hx; simpa using hx
    · rename_i hx
      rw [if_neg hx] at h
      simpa using fi_at c r (by simpa using h)
theorem index_fi (c : UInt8) : ∀ (l : List UInt8), Lib.indexByte l c = if fi c l < l.length then (fi c l : Int) else -1
  | [] => by simp [Lib.indexByte]
  | x :: r => by
    have ih := index_fi c r
    unfold Lib.indexByte fi
    by_cases hx : x = c
    · subst hx; simp
    · have h1 : (x == c) = false := beq_eq_false_iff_ne.2 hx
      rw [h1, ih]
      simp only [Bool.false_eq_true, if_false, List.length_cons, hx]
      by_cases h : fi c r < r.length
      · have h2 : fi c r + 1 < r.length + 1 := by omega
        simp only [h, h2, if_true]
        have : ((fi c r : Int) == -1) = false := beq_eq_false_iff_ne.2 (by omega)
        rw [this]
        simp
      · have h2 : ¬ fi c r + 1 < r.length + 1 := by omega
        simp only [h, h2, if_false]
        rfl
theorem cut_fi (l : List UInt8) (c : UInt8) : Lib.cut l [c] = if fi c l < l.length then (l.take (fi c l), l.drop (fi c l + 1), true) else (l, [], false) := by
  unfold Lib.cut
  rw [Lib.index_one, index_fi]
  by_cases h : fi c l < l.length
  · rw [if_pos h, if_pos h, if_pos (by omega)]; simp
  · rw [if_neg h, if_neg h]; rfl

theorem digits_len : ∀ (n : Nat), (Lib.decDigits n).length ≤ n + 1 := by
  intro n
  induction n using Nat.strongRecOn with
  | _ n ih =>
    unfold Lib.decDigits
    split
    · simp
    · rename_i h
      have := ih (n / 10) (by omega)
      simp
      omega
theorem itoa_len {n : Int} (h : 0 ≤ n ∧ n < 1000003) : (Lib.itoa n).length ≤ 1000004 := by
  unfold Lib.itoa
  rw [if_neg (by omega)]
  have := digits_len n.toNat
  omega

/-- The next order of a book. -/
def rdStep (l : List UInt8) (s : Int) : Option (List UInt8 × List UInt8 × Int) :=
  let e := fi 10 l
  let t := l.take e
  let b := fi 32 t
  let o := t.drop (b + 1)
  if e < l.length ∧ b < e ∧ okText o = true ∧ Lib.itoa (sumF s o) = t.take b then some (o, l.drop (e + 1), sumF s o) else none
theorem rdStep_len {l : List UInt8} {s : Int} {o r : List UInt8} {s' : Int} (h : rdStep l s = some (o, r, s')) : r.length < l.length ∧ o.length ≤ l.length := by
  simp only [rdStep] at h
  split at h
  · rename_i hc
    cases h
    have := hc.1
    simp
    omega
  · cases h

theorem mk_by (a : ByteArray) : (⟨(by_ a).toArray⟩ : ByteArray) = a := by_ext rfl
theorem by_mk (l : List UInt8) : by_ ⟨l.toArray⟩ = l := rfl
theorem line66 (s : Int) (o : ByteArray) (ho : o.size ≤ 100000) : implf66 KK s o = some (⟨(Lib.itoa (sumF s (by_ o)) ++ 32 :: by_ o ++ [10]).toArray⟩, sumF s (by_ o)) := by
  have hr := sumF_rng s (by_ o)
  have hl := itoa_len hr
  unfold implf66
  rw [sum46 s o ho]
  show ob (implf85 KK _) _ = _
  unfold implf85
  rw [if_pos ⟨by omega, by omega⟩]
  have e1 : ∀ l : List UInt8, (⟨l.toArray⟩ : ByteArray).size = l.length := fun l => rfl
  have e2 : ∀ a b : ByteArray, (a ++ b).size = a.size + b.size := fun a b => by rw [← by_len, by_app]; simp [by_len]
  have e3 : (ByteArray.mk #[(32 : UInt8)]).size = 1 := rfl
  have e4 : (ByteArray.mk #[(10 : UInt8)]).size = 1 := rfl
  show (if _ then _ else _) = _
  rw [if_pos (by rw [e1, e3]; omega), if_pos (by rw [e2, e1, e3]; omega), if_pos (by rw [e2, e2, e1, e3, e4]; omega)]
  congr 2
  apply by_ext
  rw [by_app, by_app, by_app]
  simp [by_]

theorem cut64 (x : ByteArray) (c : UInt8) (hx : x.size ≤ 9223372036854775807) : implf64 KK x (ByteArray.mk #[c]) =
    some (⟨((by_ x).take (fi c (by_ x))).toArray⟩, ⟨((by_ x).drop (fi c (by_ x) + 1)).toArray⟩, decide (fi c (by_ x) < (by_ x).length)) := by
  unfold implf64
  rw [if_pos (Or.inr ⟨rfl, hx⟩)]
  show some (_, _, (Lib.cut (by_ x) [c]).2.2) = _
  have e : (ByteArray.mk #[c]).data.toList = [c] := rfl
  rw [e, cut_fi]
  have hle := fi_le c (by_ x)
  by_cases h : fi c (by_ x) < (by_ x).length
  · rw [if_pos h, decide_eq_true h]
  · rw [if_neg h, decide_eq_false h, List.take_of_length_le (by omega), List.drop_of_length_le (by omega)]

theorem size_mk (l : List UInt8) : (⟨l.toArray⟩ : ByteArray).size = l.length := rfl
theorem size_app (a b : ByteArray) : (a ++ b).size = a.size + b.size := by rw [← by_len, by_app]; simp [by_len]

/-- What a reader does in a round. -/
noncomputable def rdB (rc : ByteArray → List ByteArray → Int → Option (ByteArray × List ByteArray × Int × Unit)) (x : ByteArray) (acc : List ByteArray) (s : Int) : Option (ByteArray × List ByteArray × Int × Unit) :=
  if acc.length < 100 then (match rdStep (by_ x) s with
    | none => some (x, acc, s, ())
    | some (o, r, s') => rc ⟨r.toArray⟩ (acc ++ [⟨o.toArray⟩]) s') else some (x, acc, s, ())

theorem step19 (rc : ByteArray → List ByteArray → Int → Option (ByteArray × List ByteArray × Int × Unit)) (x : ByteArray) (acc : List ByteArray) (s : Int) (hx : x.size ≤ 100000) :
    implb19_0 KK rc x acc s = rdB rc x acc s := by
  unfold implb19_0 rdB
  rw [cdec]
  by_cases ha : acc.length < 100
  · rw [if_pos (by omega), if_pos ha, cut64 x 10 (by omega)]
    obtain ⟨l, hl⟩ : ∃ l, l = by_ x := ⟨_, rfl⟩
    have hll : l.length = x.size := by rw [hl]; rfl
    rw [← hl]
    obtain ⟨e, he⟩ : ∃ e, e = fi 10 l := ⟨_, rfl⟩
    have hel : e ≤ l.length := by rw [he]; exact fi_le _ _
    rw [← he]
    have htl : (l.take e).length = e := by rw [List.length_take]; omega
    show ob (implf64 KK ⟨(l.take e).toArray⟩ (ByteArray.mk #[32])) _ = _
    rw [cut64 ⟨(l.take e).toArray⟩ 32 (by rw [size_mk, htl]; omega), by_mk]
    obtain ⟨t, ht⟩ : ∃ t, t = l.take e := ⟨_, rfl⟩
    rw [← ht] at htl ⊢
    obtain ⟨b, hb⟩ : ∃ b, b = fi 32 t := ⟨_, rfl⟩
    rw [← hb]
    have hbl : b ≤ e := by rw [hb, ← htl]; exact fi_le _ _
    have hrd : rdStep l s = if e < l.length ∧ b < e ∧ okText (t.drop (b + 1)) = true ∧ Lib.itoa (sumF s (t.drop (b + 1))) = t.take b then some (t.drop (b + 1), l.drop (e + 1), sumF s (t.drop (b + 1))) else none := by
      simp only [rdStep, ← he, ← ht, ← hb]
    rw [hrd]
    show (bif !decide (e < l.length) then _ else _) = _
    rw [cnot, cdec]
    by_cases h1 : e < l.length
    · rw [if_pos h1]
      show (bif !decide (b < t.length) then _ else _) = _
      rw [cnot, cdec, htl]
      by_cases h2 : b < e
      · rw [if_pos h2]
        show ob (implf65 KK ⟨(t.drop (b + 1)).toArray⟩) _ = _
        rw [text65, by_mk]
        cases h3 : okText (t.drop (b + 1)) with
        | false => simp [ob]
        | true =>
          have hol : (t.drop (b + 1)).length ≤ 100000 := by rw [List.length_drop]; omega
          show ob (implf66 KK s ⟨(t.drop (b + 1)).toArray⟩) _ = _
          rw [line66 s _ (by rw [size_mk]; exact hol), by_mk]
          show (if (⟨t.toArray⟩ : ByteArray).size + (ByteArray.mk #[(10 : UInt8)]).size ≤ 140737488355328 then _ else none) = _
          have e10 : (ByteArray.mk #[(10 : UInt8)]).size = 1 := rfl
          rw [if_pos (by rw [size_mk, e10]; omega), beqB]
          have htd : t = t.take b ++ 32 :: t.drop (b + 1) := by
            have hg := fi_at 32 t (by rw [← hb, htl]; exact h2)
            rw [← hb] at hg
            have := drop_getD (w := t) (j := b) 0 (by rw [htl]; exact h2)
            rw [hg] at this
            rw [← this, List.take_append_drop]
          have hiff : (⟨(Lib.itoa (sumF s (t.drop (b + 1))) ++ 32 :: t.drop (b + 1) ++ [10]).toArray⟩ : ByteArray) = ⟨t.toArray⟩ ++ ByteArray.mk #[10] ↔ Lib.itoa (sumF s (t.drop (b + 1))) = t.take b := by
            constructor
            · intro h
              have h := congrArg by_ h
              rw [by_app, by_mk, by_mk] at h
              have h : Lib.itoa (sumF s (t.drop (b + 1))) ++ 32 :: t.drop (b + 1) ++ [10] = t ++ [10] := h
              have h := List.append_cancel_right h
              conv at h => rhs; rw [htd]
              exact List.append_cancel_right h
            · intro h
              apply by_ext
              rw [by_app, by_mk, by_mk, h, ← htd]
          rw [cnot, cdec]
          by_cases h4 : Lib.itoa (sumF s (t.drop (b + 1))) = t.take b
          · rw [if_pos (hiff.2 h4)]
            have hsz : (⟨(Lib.itoa (sumF s (t.drop (b + 1))) ++ 32 :: t.drop (b + 1) ++ [10]).toArray⟩ : ByteArray).size = e + 1 := by
              rw [hiff.2 h4, size_app, size_mk, e10, htl]
            have hlen1 : ((List.replicate 1 ByteArray.empty).set 0 (⟨(t.drop (b + 1)).toArray⟩ : ByteArray)).length = 1 := rfl
            rw [if_pos (show (acc.length + ((List.replicate 1 ByteArray.empty).set 0 (⟨(t.drop (b + 1)).toArray⟩ : ByteArray)).length) * 16 ≤ 140737488355328 by rw [hlen1]; omega)]
            rw [hsz, if_pos (show (0 : Int) ≤ ((e + 1 : Nat) : Int) ∧ ((e + 1 : Nat) : Int) ≤ (x.size : Int) ∧ (x.size : Int) ≤ (x.size : Int) by omega)]
            rw [if_pos ⟨h1, h2, rfl, h4⟩]
            have hr : x.extract (((e + 1 : Nat) : Int)).toNat ((x.size : Int)).toNat = ⟨(l.drop (e + 1)).toArray⟩ := by
              apply by_ext
              rw [by_ext_cut, by_mk (l.drop (e + 1)), ← hl, Int.toNat_natCast, Int.toNat_natCast, List.take_of_length_le (by omega)]
            rw [hr]
            rfl
          · rw [if_neg (fun h => h4 (hiff.1 h)), if_neg (fun h => h4 h.2.2.2)]
      · rw [if_neg h2, if_neg (fun h => h2 h.2.1)]
    · rw [if_neg h1, if_neg (fun h => h1 h.1)]
  · rw [if_neg (by omega), if_neg ha]

theorem loop44_2 (x : ByteArray) (acc : List ByteArray) (s b : Int) (hx : x.size ≤ 100000) : impll44_2 KK KK x acc s b 0 = some ((fi 10 (by_ x) : Int), ()) := by
  have hle : fi 10 (by_ x) ≤ x.size := fi_le _ _
  have key := upto (fun k (p : Nat) => impll44_2 KK k x acc s b (p : Int)) (fun j => j) (fi 10 (by_ x)) ((fi 10 (by_ x) : Int), ())
    (fun k j hj => by
      show implb44_2 KK (impll44_2 KK k) x acc s b _ = _
      unfold implb44_2
      have hne : bt x (j : Int) ≠ 10 := by
        rw [bt_at (by omega)]; intro e; apply fi_ne 10 (by_ x) j hj
        have e : ((by_ x).getD j 0).toNat = 10 := by omega
        exact UInt8.toNat.inj e
      rw [cdec, if_pos (by omega), if_pos (by omega), ibne, cnot, decide_eq_false hne, wrapS (by omega)]
      rfl)
    (fun k => by
      show implb44_2 KK (impll44_2 KK k) x acc s b _ = _
      unfold implb44_2
      by_cases h : fi 10 (by_ x) < x.size
      · have he : bt x (fi 10 (by_ x) : Int) = 10 := by rw [bt_at h, fi_at 10 (by_ x) h]; rfl
        rw [cdec, if_pos (by omega), if_pos (by omega), ibne, cnot, decide_eq_true he]
        rfl
      · rw [cdec, if_neg (by omega)])
  exact key KK 0 (by show _ - 0 < 1000000; omega) (Nat.zero_le _)
theorem fi_take (c : UInt8) : ∀ (l : List UInt8) (e j : Nat), j < fi c (l.take e) → l.getD j 0 ≠ c := by
  intro l e j hj
  have h1 := fi_ne c (l.take e) j hj
  have h2 := fi_le c (l.take e)
  have h3 : j < e := by rw [List.length_take] at h2; omega
  rw [List.getD_eq_getElem?_getD, List.getElem?_take_of_lt h3, ← List.getD_eq_getElem?_getD] at h1
  exact h1
theorem loop44_4 (x : ByteArray) (acc : List ByteArray) (s : Int) (e : Nat) (he : e ≤ x.size) (hx : x.size ≤ 100000) : impll44_4 KK KK x acc s 0 (e : Int) = some ((fi 32 ((by_ x).take e) : Int), ()) := by
  have hle : fi 32 ((by_ x).take e) ≤ e := Nat.le_trans (fi_le _ _) (by rw [List.length_take]; omega)
  have key := upto (fun k (p : Nat) => impll44_4 KK k x acc s (p : Int) (e : Int)) (fun j => j) (fi 32 ((by_ x).take e)) ((fi 32 ((by_ x).take e) : Int), ())
    (fun k j hj => by
      show implb44_4 KK (impll44_4 KK k) x acc s _ _ = _
      unfold implb44_4
      have hne : bt x (j : Int) ≠ 32 := by
        rw [bt_at (by omega)]; intro e1; apply fi_take 32 (by_ x) e j hj
        have e1 : ((by_ x).getD j 0).toNat = 32 := by omega
        exact UInt8.toNat.inj e1
      rw [cdec, if_pos (by omega), if_pos (by omega), ibne, cnot, decide_eq_false hne, wrapS (by omega)]
      rfl)
    (fun k => by
      show implb44_4 KK (impll44_4 KK k) x acc s _ _ = _
      unfold implb44_4
      by_cases h : fi 32 ((by_ x).take e) < e
      · have h1 : bt x (fi 32 ((by_ x).take e) : Int) = 32 := by
          rw [bt_at (by omega)]
          have := fi_at 32 ((by_ x).take e) (by rw [List.length_take, by_len]; omega)
          rw [List.getD_eq_getElem?_getD, List.getElem?_take_of_lt h, ← List.getD_eq_getElem?_getD] at this
          rw [this]; rfl
        rw [cdec, if_pos (by omega), if_pos (by omega), ibne, cnot, decide_eq_true h1]
        rfl
      · rw [cdec, if_neg (by omega)])
  exact key KK 0 (by show _ - 0 < 1000000; omega) (Nat.zero_le _)

theorem step44 (rc : ByteArray → List ByteArray → Int → Option (ByteArray × List ByteArray × Int × Unit)) (x : ByteArray) (acc : List ByteArray) (s : Int) (hx : x.size ≤ 100000) :
    implb44_0 KK rc x acc s = rdB rc x acc s := by
  unfold implb44_0 rdB
  rw [cdec]
  by_cases ha : acc.length < 100
  · rw [if_pos (by omega), if_pos ha, loop44_2 x acc s 0 hx]
    obtain ⟨l, hl⟩ : ∃ l, l = by_ x := ⟨_, rfl⟩
    have hll : l.length = x.size := by rw [hl]; rfl
    rw [← hl]
    obtain ⟨e, he⟩ : ∃ e, e = fi 10 l := ⟨_, rfl⟩
    have hel : e ≤ l.length := by rw [he]; exact fi_le _ _
    rw [← he]
    have htl : (l.take e).length = e := by rw [List.length_take]; omega
    show ob (impll44_4 KK KK x acc s 0 (e : Int)) _ = _
    rw [loop44_4 x acc s e (by omega) hx, ← hl]
    obtain ⟨t, ht⟩ : ∃ t, t = l.take e := ⟨_, rfl⟩
    rw [← ht] at htl ⊢
    obtain ⟨b, hb⟩ : ∃ b, b = fi 32 t := ⟨_, rfl⟩
    rw [← hb]
    have hbl : b ≤ e := by rw [hb, ← htl]; exact fi_le _ _
    have hrd : rdStep l s = if e < l.length ∧ b < e ∧ okText (t.drop (b + 1)) = true ∧ Lib.itoa (sumF s (t.drop (b + 1))) = t.take b then some (t.drop (b + 1), l.drop (e + 1), sumF s (t.drop (b + 1))) else none := by
      simp only [rdStep, ← he, ← ht, ← hb]
    rw [hrd]
    show (bif (e : Int) == (x.size : Int) then _ else _) = _
    rw [ibeq, cdec]
    by_cases h1 : e < l.length
    · rw [if_neg (by omega)]
      show (bif (b : Int) == (e : Int) then _ else _) = _
      rw [ibeq, cdec]
      by_cases h2 : b < e
      · rw [if_neg (by omega)]
        show (if (0 : Int) ≤ IntKind.i64.wrap ((b : Int) + 1) ∧ IntKind.i64.wrap ((b : Int) + 1) ≤ (e : Int) ∧ (e : Int) ≤ (x.size : Int) then _ else none) = _
        rw [wrapS (show b ≤ 1000000000 by omega), if_pos (by omega)]
        have hord : x.extract (((b + 1 : Nat) : Int)).toNat ((e : Int)).toNat = ⟨(t.drop (b + 1)).toArray⟩ := by
          apply by_ext
          rw [by_ext_cut, by_mk (t.drop (b + 1)), ← hl, Int.toNat_natCast, Int.toNat_natCast, ← ht]
        have hol : (t.drop (b + 1)).length ≤ 100000 := by rw [List.length_drop]; omega
        rw [hord, text84 _ (by rw [size_mk]; exact hol), by_mk (t.drop (b + 1))]
        cases h3 : okText (t.drop (b + 1)) with
        | false => simp [ob]
        | true =>
          show (if (0 : Int) ≤ ((b + 1 : Nat) : Int) ∧ ((b + 1 : Nat) : Int) ≤ (e : Int) ∧ (e : Int) ≤ (x.size : Int) then _ else none) = _
          rw [if_pos (by omega), sum47 s _ (by rw [size_mk]; exact hol), by_mk (t.drop (b + 1))]
          have hr := sumF_rng s (t.drop (b + 1))
          show ob (implf85 KK (sumF s (t.drop (b + 1)))) _ = _
          unfold implf85
          rw [if_pos ⟨by omega, by omega⟩]
          show (if (0 : Int) ≤ (0 : Int) ∧ (0 : Int) ≤ (b : Int) ∧ (b : Int) ≤ (x.size : Int) then _ else none) = _
          rw [if_pos (by omega), beqB]
          have hiff : (⟨(Lib.itoa (sumF s (t.drop (b + 1)))).toArray⟩ : ByteArray) = x.extract 0 ((b : Int)).toNat ↔ Lib.itoa (sumF s (t.drop (b + 1))) = t.take b := by
            have h0 : by_ (x.extract 0 ((b : Int)).toNat) = t.take b := by
              rw [by_ext_cut, ← hl, Int.toNat_natCast, List.drop_zero, ht, List.take_take, Nat.min_eq_left hbl]
            constructor
            · intro h
              have h := congrArg by_ h
              rw [h0] at h
              exact h
            · intro h
              apply by_ext
              rw [h0]
              exact h
          rw [cnot, cdec]
          by_cases h4 : Lib.itoa (sumF s (t.drop (b + 1))) = t.take b
          · rw [if_pos (hiff.2 h4)]
            have hlen1 : ((List.replicate 1 ByteArray.empty).set 0 (⟨(t.drop (b + 1)).toArray⟩ : ByteArray)).length = 1 := rfl
            rw [if_pos ⟨h1, h2, rfl, h4⟩]
            show (if (acc.length + ((List.replicate 1 ByteArray.empty).set 0 (⟨(t.drop (b + 1)).toArray⟩ : ByteArray)).length) * 16 ≤ 140737488355328 then _ else none) = _
            rw [if_pos (show (acc.length + ((List.replicate 1 ByteArray.empty).set 0 (⟨(t.drop (b + 1)).toArray⟩ : ByteArray)).length) * 16 ≤ 140737488355328 by rw [hlen1]; omega)]
            rw [wrapS (show e ≤ 1000000000 by omega), if_pos (show (0 : Int) ≤ ((e + 1 : Nat) : Int) ∧ ((e + 1 : Nat) : Int) ≤ (x.size : Int) ∧ (x.size : Int) ≤ (x.size : Int) by omega)]
            have hr : x.extract (((e + 1 : Nat) : Int)).toNat ((x.size : Int)).toNat = ⟨(l.drop (e + 1)).toArray⟩ := by
              apply by_ext
              rw [by_ext_cut, by_mk (l.drop (e + 1)), ← hl, Int.toNat_natCast, Int.toNat_natCast, List.take_of_length_le (by omega)]
            rw [hr]
            rfl
          · rw [if_neg (fun h => h4 (hiff.1 h)), if_neg (fun h => h4 h.2.2.2)]
      · rw [if_pos (by omega), if_neg (fun h => h2 h.2.1)]
    · rw [if_pos (by omega), if_neg (fun h => h1 h.1)]
  · rw [if_neg (by omega), if_neg ha]
/-- A reader. -/
noncomputable def rdL : Nat → ByteArray → List ByteArray → Int → Option (ByteArray × List ByteArray × Int × Unit)
  | 0, _, _, _ => none
  | k + 1, x, acc, s => rdB (rdL k) x acc s
theorem rdB_congr {rc rc' : ByteArray → List ByteArray → Int → Option (ByteArray × List ByteArray × Int × Unit)} {x : ByteArray} {acc : List ByteArray} {s : Int}
    (h : ∀ x' acc' s', x'.size ≤ x.size → rc x' acc' s' = rc' x' acc' s') : rdB rc x acc s = rdB rc' x acc s := by
  unfold rdB
  split
  · split
    · rfl
    · rename_i o r s' hr
      exact h _ _ _ (by rw [size_mk]; have := (rdStep_len hr).1; rw [by_len] at this; omega)
  · rfl
theorem eq19 : ∀ (k : Nat) (x : ByteArray) (acc : List ByteArray) (s : Int), x.size ≤ 100000 → impll19_0 KK k x acc s = rdL k x acc s
  | 0, _, _, _, _ => rfl
  | k + 1, x, acc, s, hx => by
    show implb19_0 KK (impll19_0 KK k) x acc s = rdB (rdL k) x acc s
    rw [step19 _ x acc s hx]
    exact rdB_congr fun x' acc' s' h => eq19 k x' acc' s' (by omega)
theorem eq44 : ∀ (k : Nat) (x : ByteArray) (acc : List ByteArray) (s : Int), x.size ≤ 100000 → impll44_0 KK k x acc s = rdL k x acc s
  | 0, _, _, _, _ => rfl
  | k + 1, x, acc, s, hx => by
    show implb44_0 KK (impll44_0 KK k) x acc s = rdB (rdL k) x acc s
    rw [step44 _ x acc s hx]
    exact rdB_congr fun x' acc' s' h => eq44 k x' acc' s' (by omega)
theorem rdL_some : ∀ (k : Nat) (x : ByteArray) (acc : List ByteArray) (s : Int), acc.length ≤ 100 → 100 < k + acc.length → ∃ y : ByteArray × List ByteArray × Int × Unit, rdL k x acc s = some y ∧ y.2.1.length ≤ 100
  | 0, _, _, _, h1, h2 => by omega
  | k + 1, x, acc, s, h1, h2 => by
    show ∃ y : ByteArray × List ByteArray × Int × Unit, rdB (rdL k) x acc s = some y ∧ _
    unfold rdB
    split
    · split
      · exact ⟨_, rfl, h1⟩
      · exact rdL_some k _ _ _ (by simp; omega) (by simp; omega)
    · exact ⟨_, rfl, h1⟩
/-- What a book's reader gives. -/
theorem read_both (x : ByteArray) (hx : x.size ≤ 100000) : ∃ y : List ByteArray × ByteArray, implf19 KK x = some y ∧ implf44 KK x = some y ∧ y.1.length ≤ 100 := by
  obtain ⟨y, e, hy⟩ := rdL_some KK x [] 0 (by simp) (by show 100 < 1000000 + 0; omega)
  refine ⟨(y.2.1, y.1), ?_, ?_, hy⟩
  · unfold implf19; rw [eq19 _ _ _ _ hx, e]; rfl
  · unfold implf44; rw [eq44 _ _ _ _ hx, e]; rfl

theorem merge_loop (x1 x2 : ByteArray) (l m : List ByteArray) (hl : l.length ≤ 100) (hm : m.length ≤ 100) : ∀ (d j k : Nat), min l.length m.length - j = d → j ≤ min l.length m.length → d < k →
    ∃ r, impll23_0 KK k x1 x2 l m (min (l.length : Int) (m.length : Int)) (j : Int) = some r ∧ impll52_0 KK k x1 x2 l m (j : Int) = some r
  | d, j, 0, _, _, h => by omega
  | d, j, k + 1, hd, hj, hk => by
    show ∃ r, implb23_0 KK (impll23_0 KK k) x1 x2 l m _ _ = some r ∧ implb52_0 KK (impll52_0 KK k) x1 x2 l m _ = some r
    unfold implb23_0 implb52_0
    simp only [cdec]
    by_cases h : j < min l.length m.length
    · rw [if_pos (by omega), if_pos (by omega), if_pos (by omega), if_pos (by omega), if_pos (by omega), if_pos (by omega), if_pos (by omega)]
      simp only [beqB, cnot, cdec]
      rw [wrapS (by omega)]
      by_cases he : l.getD (j : Int).toNat ByteArray.empty = m.getD (j : Int).toNat ByteArray.empty
      · rw [if_pos he, if_pos he]
        exact merge_loop x1 x2 l m hl hm (d - 1) (j + 1) k (by omega) (by omega) (by omega)
      · rw [if_neg he, if_neg he]
        exact ⟨_, rfl, rfl⟩
    · rw [if_neg (by omega)]
      by_cases h1 : (j : Int) < l.length
      · rw [if_pos h1, if_neg (by omega)]; exact ⟨_, rfl, rfl⟩
      · rw [if_neg h1]; exact ⟨_, rfl, rfl⟩

theorem merge_both (a b : ByteArray) (ha : a.size ≤ 100000) (hb : b.size ≤ 100000) : ∃ y, implf23 KK a b = some y ∧ implf52 KK a b = some y := by
  obtain ⟨y1, e1, f1, h1⟩ := read_both a ha
  obtain ⟨y2, e2, f2, h2⟩ := read_both b hb
  unfold implf23 implf52
  rw [e1, e2, f1, f2]
  simp only [obS]
  obtain ⟨r, g1, g2⟩ := merge_loop a b y1.1 y2.1 h1 h2 _ 0 KK rfl (Nat.zero_le _) (by show _ < 1000000; omega)
  have g1 : impll23_0 KK KK a b y1.1 y2.1 (min (y1.1.length : Int) (y2.1.length : Int)) 0 = some r := g1
  have g2 : impll52_0 KK KK a b y1.1 y2.1 0 = some r := g2
  rw [g1, g2]
  simp only [obS, beqB]
  by_cases c1 : y1.2 = ByteArray.mk #[]
  · by_cases c2 : y2.2 = ByteArray.mk #[]
    · simp only [c1, c2, decide_true, Bool.not_true, cond_false]
      cases r with
      | inl z => dsimp only; cases decide ((y2.1.length : Int) > (y1.1.length : Int)) <;> exact ⟨_, rfl, rfl⟩
      | inr z => exact ⟨_, rfl, rfl⟩
    · simp only [c1, c2, decide_true, decide_false, Bool.not_true, Bool.not_false, cond_false, cond_true]
      exact ⟨_, rfl, rfl⟩
  · simp only [c1, decide_false, Bool.not_false, cond_true]
    exact ⟨_, rfl, rfl⟩
theorem same45 (a b : List ByteArray) (ha : a.length ≤ 1000) : implf45 KK a b = some (decide (a = b)) := by
  unfold implf45
  rw [ibne, cnot, cdec]
  by_cases hl : (a.length : Int) = b.length
  · rw [if_pos hl]
    have hl' : a.length = b.length := by omega
    have key := uptoAll (fun k (p : Nat) => impll45_0 KK k a b (p : Int)) (fun j => j) a.length (fun j => a.getD j ByteArray.empty = b.getD j ByteArray.empty) (Sum.inl ((a.length : Int), ())) (Sum.inr false)
      (fun k j hj hp => by
        show implb45_0 KK (impll45_0 KK k) a b _ = _
        unfold implb45_0
        have e : a.getD ((j : Int)).toNat ByteArray.empty = b.getD ((j : Int)).toNat ByteArray.empty := by rw [Int.toNat_natCast]; exact hp
        rw [cdec, if_pos (by omega), if_pos (by omega), if_pos (by omega), beqB, cnot, cdec, if_pos e, wrapS (by omega)])
      (fun k j hj hp => by
        show implb45_0 KK (impll45_0 KK k) a b _ = _
        unfold implb45_0
        have e : ¬ a.getD ((j : Int)).toNat ByteArray.empty = b.getD ((j : Int)).toNat ByteArray.empty := by rw [Int.toNat_natCast]; exact hp
        rw [cdec, if_pos (by omega), if_pos (by omega), if_pos (by omega), beqB, cnot, cdec, if_neg e])
      (fun k => by
        show implb45_0 KK (impll45_0 KK k) a b _ = _
        unfold implb45_0
        rw [cdec, if_neg (by omega)])
    have key := key KK 0 (by show a.length - 0 < 1000000; omega) (Nat.zero_le _)
    have hall : (∀ i, 0 ≤ i → i < a.length → a.getD i ByteArray.empty = b.getD i ByteArray.empty) ↔ a = b := by
      constructor
      · intro h
        apply List.ext_getElem hl'
        intro i h1 h2
        have := h i (Nat.zero_le _) h1
        simpa [List.getD_eq_getElem?_getD, List.getElem?_eq_getElem h1, List.getElem?_eq_getElem h2] using this
      · rintro rfl i _ _; rfl
    by_cases hab : a = b
    · rw [if_pos (hall.2 hab)] at key
      have key : impll45_0 KK KK a b 0 = _ := key
      rw [key, decide_eq_true hab]; rfl
    · rw [if_neg (fun h => hab (hall.1 h))] at key
      have key : impll45_0 KK KK a b 0 = _ := key
      rw [key, decide_eq_false hab]; rfl
  · rw [if_neg hl, decide_eq_false (fun h => hl (by rw [h]))]

/-- One line of a book. -/
def lineF (s : Int) (o : List UInt8) : List UInt8 := Lib.itoa (sumF s o) ++ 32 :: o ++ [10]
/-- The text of orders. -/
def textF : Int → List (List UInt8) → List UInt8
  | _, [] => []
  | s, o :: r => lineF s o ++ textF (sumF s o) r

theorem digit_rng : ∀ (n : Nat) (c : UInt8), c ∈ Lib.decDigits n → 48 ≤ c.toNat ∧ c.toNat ≤ 57 := by
  intro n
  induction n using Nat.strongRecOn with
  | _ n ih =>
    intro c hc
    unfold Lib.decDigits at hc
    split at hc
    · rename_i h
      simp only [List.mem_singleton] at hc
      subst hc
      rw [UInt8.toNat_ofNat']
      omega
    · rename_i h
      rw [List.mem_append] at hc
      rcases hc with hc | hc
      · exact ih (n / 10) (by omega) c hc
      · simp only [List.mem_singleton] at hc
        subst hc
        rw [UInt8.toNat_ofNat']
        omega
theorem itoa_rng {n : Int} (h : 0 ≤ n) (c : UInt8) (hc : c ∈ Lib.itoa n) : 48 ≤ c.toNat ∧ c.toNat ≤ 57 := by
  unfold Lib.itoa at hc
  rw [if_neg (by omega)] at hc
  exact digit_rng _ _ hc
theorem fi_app (c : UInt8) : ∀ (a b : List UInt8), (∀ x ∈ a, x ≠ c) → fi c (a ++ c :: b) = a.length
  | [], b, _ => by simp [fi]
  | x :: a, b, h => by
    show fi c (x :: (a ++ c :: b)) = _
    unfold fi
    rw [if_neg (h x (by simp)), fi_app c a b (fun y hy => h y (by simp [hy]))]
    rfl
theorem fi_none (c : UInt8) : ∀ (a : List UInt8), (∀ x ∈ a, x ≠ c) → fi c a = a.length
  | [], _ => rfl
  | x :: a, h => by
    unfold fi
    rw [if_neg (h x (by simp)), fi_none c a (fun y hy => h y (by simp [hy]))]
    rfl
theorem ok_no10 {o : List UInt8} (h : okText o = true) : ∀ x ∈ o, x ≠ 10 := by
  intro x hx e
  subst e
  unfold okText at h
  have : o.contains 10 = true := List.contains_iff_mem.2 hx
  rw [this] at h
  simp at h
theorem head_no10 {s : Int} {o : List UInt8} (h : okText o = true) : ∀ x ∈ Lib.itoa (sumF s o) ++ 32 :: o, x ≠ 10 := by
  intro x hx e
  subst e
  rw [List.mem_append, List.mem_cons] at hx
  rcases hx with hx | hx | hx
  · have := itoa_rng (sumF_rng s o).1 _ hx
    revert this; decide
  · revert hx; decide
  · exact ok_no10 h _ hx rfl

/-- A line that stands whole at the head is read. -/
theorem rd_line {s : Int} {o r : List UInt8} (h : okText o = true) : rdStep (lineF s o ++ r) s = some (o, r, sumF s o) := by
  have e0 : lineF s o ++ r = (Lib.itoa (sumF s o) ++ 32 :: o) ++ 10 :: r := by simp [lineF]
  have h1 : fi 10 (lineF s o ++ r) = (Lib.itoa (sumF s o) ++ 32 :: o).length := by rw [e0]; exact fi_app 10 _ _ (head_no10 h)
  have h2 : (lineF s o ++ r).take (fi 10 (lineF s o ++ r)) = Lib.itoa (sumF s o) ++ 32 :: o := by rw [h1, e0]; exact List.take_left' rfl
  have h3 : fi 32 (Lib.itoa (sumF s o) ++ 32 :: o) = (Lib.itoa (sumF s o)).length := fi_app 32 _ _ (by
    intro x hx e
    subst e
    have := itoa_rng (sumF_rng s o).1 _ hx
    revert this; decide)
  have h4 : (Lib.itoa (sumF s o) ++ 32 :: o).drop ((Lib.itoa (sumF s o)).length + 1) = o := by
    rw [List.drop_append]; simp
  have h5 : (lineF s o ++ r).drop ((Lib.itoa (sumF s o) ++ 32 :: o).length + 1) = r := by
    rw [e0, List.drop_append]; simp
  simp only [rdStep, h2, h3, h4]
  rw [h1, h5, if_pos]
  refine ⟨?_, ?_, h, ?_⟩
  · rw [e0]; simp
  · simp
  · simp
/-- A piece of a line that misses its end is not read. -/
theorem rd_torn {s : Int} {o p q : List UInt8} (h : okText o = true) (hp : p ++ q = lineF s o) (hq : q ≠ []) : rdStep p s = none := by
  have hn : ∀ x ∈ p, x ≠ 10 := by
    intro x hx
    have : ∃ q', q = q' ++ [10] ∧ p ++ q' = Lib.itoa (sumF s o) ++ 32 :: o := by
      rcases List.eq_nil_or_concat q with rfl | ⟨q', c, rfl⟩
      · exact absurd rfl hq
      · have e : (p ++ q') ++ [c] = (Lib.itoa (sumF s o) ++ 32 :: o) ++ [10] := by
          have := hp
          simp only [lineF, List.concat_eq_append] at this
          rw [List.append_assoc]; exact this
        have e1 := List.append_inj_left' e rfl
        have e2 := List.append_inj_right' e rfl
        cases e2
        exact ⟨q', by simp, e1⟩
    obtain ⟨q', -, e⟩ := this
    exact head_no10 h x (by rw [← e]; simp [hx])
  simp only [rdStep, fi_none 10 p hn]
  rw [if_neg (fun h => Nat.lt_irrefl _ h.1)]

abbrev toB (l : List (List UInt8)) : List ByteArray := l.map fun o => ⟨o.toArray⟩
theorem rdL_succ (k : Nat) (x : ByteArray) (acc : List ByteArray) (s : Int) : rdL (k + 1) x acc s = rdB (rdL k) x acc s := rfl

/-- Any beginning of a book is read as a beginning of its orders. -/
theorem read_prefix : ∀ (l : List (List UInt8)) (k : Nat) (p q : List UInt8) (acc : List ByteArray) (s : Int), (∀ o ∈ l, okText o = true) → acc.length + l.length ≤ 100 → 100 < k + acc.length → p ++ q = textF s l →
    ∃ (j : Nat) (rest : List UInt8) (s' : Int), rdL k ⟨p.toArray⟩ acc s = some (⟨rest.toArray⟩, acc ++ toB (l.take j), s', ()) ∧ j ≤ l.length ∧ (rest = [] ∨ j < l.length) ∧ (q = [] → j = l.length ∧ rest = [])
  | l, 0, p, q, acc, s, _, h1, h2, _ => by omega
  | [], k + 1, p, q, acc, s, hl, h1, h2, hp => by
    have hp0 : p = [] := (List.append_eq_nil_iff.1 hp).1
    subst hp0
    refine ⟨0, [], s, ?_, Nat.le_refl _, .inl rfl, fun _ => ⟨rfl, rfl⟩⟩
    rw [rdL_succ]
    unfold rdB
    split
    · have : rdStep (by_ (⟨([] : List UInt8).toArray⟩ : ByteArray)) s = none := by
        rw [by_mk]; simp [rdStep, fi]
      rw [this]; simp
    · simp
  | o :: r, k + 1, p, q, acc, s, hl, h1, h2, hp => by
    have ho : okText o = true := hl o (by simp)
    have hp : p ++ q = lineF s o ++ textF (sumF s o) r := hp
    rw [rdL_succ]
    have ha : acc.length < 100 := by simp at h1; omega
    unfold rdB
    rw [if_pos ha, by_mk p]
    by_cases hlen : (lineF s o).length ≤ p.length
    · obtain ⟨p', rfl⟩ : ∃ p', p = lineF s o ++ p' := by
        refine ⟨p.drop (lineF s o).length, ?_⟩
        have := congrArg (List.take (lineF s o).length) hp
        rw [List.take_append_of_le_length hlen, List.take_left'] at this
        · conv => lhs; rw [← List.take_append_drop (lineF s o).length p]
          rw [this]
        · rfl
      have hp' : p' ++ q = textF (sumF s o) r := by
        rw [List.append_assoc] at hp
        exact List.append_cancel_left hp
      rw [rd_line ho]
      obtain ⟨j, rest, s', e, h3, h4, h5⟩ := read_prefix r k p' q (acc ++ [⟨o.toArray⟩]) (sumF s o) (fun x hx => hl x (by simp [hx])) (by simp at h1 ⊢; omega) (by simp; omega) hp'
      refine ⟨j + 1, rest, s', ?_, by simp; omega, h4.imp id (fun h => by simp; omega), fun hq => ⟨by simp [(h5 hq).1], (h5 hq).2⟩⟩
      show rdL k ⟨p'.toArray⟩ (acc ++ [⟨o.toArray⟩]) (sumF s o) = _
      rw [e]
      simp [toB]
    · have hq : ∃ q', p ++ q' = lineF s o ∧ q' ≠ [] := by
        refine ⟨(lineF s o).drop p.length, ?_, ?_⟩
        · have := congrArg (List.take p.length) hp
          rw [List.take_left' rfl, List.take_append_of_le_length (by omega)] at this
          conv => lhs; lhs; rw [this]
          exact List.take_append_drop _ _
        · intro h
          have := congrArg List.length h
          simp at this
          omega
      obtain ⟨q', e1, e2⟩ := hq
      rw [rd_torn ho e1 e2]
      refine ⟨0, p, s, by simp [toB], Nat.zero_le _, .inr (by simp), fun hq0 => ?_⟩
      subst hq0
      have := congrArg List.length hp
      simp at this
      omega
theorem saneK (K : Nat) : implf27 (K + 60) = some true := by kernel_rfl
abbrev isLong (l : List ByteArray) : Prop := (∃ i, i < l.length ∧ 400 < (l.getD i ByteArray.empty).size) ∨ 300 < l.length
theorem wrapB {j : Nat} (h : j + 1 ≤ 9223372036854775807) : IntKind.i64.wrap ((j : Int) + 1) = ((j + 1 : Nat) : Int) := by
  rw [wrapI (by omega) (by omega)]; rfl
open Classical in
theorem long26 (K : Nat) (l : List ByteArray) (hl : l.length ≤ 9223372036854775807) (hK : l.length < K) : implf26 K l = some (decide (isLong l)) := by
  unfold implf26
  have key := uptoAll (fun k (p : Nat) => impll26_0 K k l (p : Int)) (fun j => j) l.length (fun j => (l.getD j ByteArray.empty).size ≤ 400) (Sum.inl ((l.length : Int), ())) (Sum.inr true)
    (fun k j hj hp => by
      show implb26_0 K (impll26_0 K k) l _ = _
      unfold implb26_0
      have e : ¬ ((l.getD ((j : Int)).toNat ByteArray.empty).size : Int) > 400 := by rw [Int.toNat_natCast]; omega
      rw [cdec, if_pos (by omega), if_pos (by omega), cdec, if_neg e, wrapB (by omega)])
    (fun k j hj hp => by
      show implb26_0 K (impll26_0 K k) l _ = _
      unfold implb26_0
      have e : ((l.getD ((j : Int)).toNat ByteArray.empty).size : Int) > 400 := by rw [Int.toNat_natCast]; omega
      rw [cdec, if_pos (by omega), if_pos (by omega), cdec, if_pos e])
    (fun k => by
      show implb26_0 K (impll26_0 K k) l _ = _
      unfold implb26_0
      rw [cdec, if_neg (by omega)])
  have key := key K 0 (by omega) (Nat.zero_le _)
  by_cases h : ∀ i, 0 ≤ i → i < l.length → (l.getD i ByteArray.empty).size ≤ 400
  · rw [if_pos h] at key
    have key : impll26_0 K K l 0 = _ := key
    rw [key]
    show some (decide ((l.length : Int) > 300)) = _
    congr 1
    by_cases h2 : 300 < l.length
    · rw [decide_eq_true (show (l.length : Int) > 300 by omega), decide_eq_true (show isLong l from .inr h2)]
    · rw [decide_eq_false (show ¬ (l.length : Int) > 300 by omega), decide_eq_false]
      rintro (⟨i, h3, h4⟩ | h3)
      · have := h i (Nat.zero_le _) h3; omega
      · exact h2 h3
  · rw [if_neg h] at key
    have key : impll26_0 K K l 0 = _ := key
    rw [key]
    show some true = _
    rw [decide_eq_true]
    simp only [Classical.not_forall] at h
    obtain ⟨i, -, h3, h4⟩ := h
    exact .inl ⟨i, h3, by omega⟩
theorem notLong {l : List ByteArray} (h : ¬ isLong l) : l.length ≤ 300 ∧ ∀ o ∈ l, o.size ≤ 400 := by
  refine ⟨?_, fun o ho => ?_⟩
  · exact Nat.not_lt.1 fun h2 => h (.inr h2)
  · obtain ⟨i, hi, e⟩ := List.mem_iff_getElem.1 ho
    apply Nat.not_lt.1
    intro h2
    refine h (.inl ⟨i, hi, ?_⟩)
    rw [List.getD_eq_getElem?_getD, List.getElem?_eq_getElem hi]
    show 400 < (l[i]).size
    rw [e]; exact h2

theorem lineF_len {s : Int} {o : List UInt8} (h : o.length ≤ 1000) : (lineF s o).length ≤ 1002000 := by
  have := itoa_len (sumF_rng s o)
  simp [lineF]
  omega
theorem line66' (s : Int) (o : ByteArray) (ho : o.size ≤ 1000) : implf66 KK s o = some (⟨(lineF s (by_ o)).toArray⟩, sumF s (by_ o)) := by
  rw [line66 s o (by omega)]; rfl
theorem write_loop : ∀ (l : List ByteArray) (s : Int) (b : ByteArray), (∀ o ∈ l, o.size ≤ 1000) → b.size + l.length * 1002000 ≤ 140737488355328 →
    writeR (implf66 KK) s b l = some (b ++ ⟨(textF s (l.map by_)).toArray⟩)
  | [], s, b, _, _ => by
    show some b = _
    congr 1
    apply by_ext
    rw [by_app]
    simp [textF, by_]
  | o :: r, s, b, hl, hb => by
    have ho := hl o (by simp)
    have hlen := lineF_len (s := s) (o := by_ o) ho
    simp only [List.length_cons] at hb
    show ob (implf66 KK s o) _ = _
    rw [line66' s o ho]
    show (if b.size + (⟨(lineF s (by_ o)).toArray⟩ : ByteArray).size ≤ 140737488355328 then _ else none) = _
    rw [if_pos (by rw [size_mk (lineF s (by_ o))]; omega)]
    show writeR (implf66 KK) (sumF s (by_ o)) (b ++ ⟨(lineF s (by_ o)).toArray⟩) r = _
    rw [write_loop r _ _ (fun x hx => hl x (by simp [hx])) (by rw [size_app, size_mk (lineF s (by_ o))]; omega)]
    congr 1
    apply by_ext
    rw [by_app, by_app, by_app, by_mk (lineF s (by_ o)), by_mk (textF (sumF s (by_ o)) (r.map by_)), by_mk (textF s ((o :: r).map by_))]
    simp [textF]
theorem write67 (l : List ByteArray) (hl : ∀ o ∈ l, o.size ≤ 1000) (hn : l.length ≤ 1000) : implf67 KK l = some ⟨(textF 0 (l.map by_)).toArray⟩ := by
  unfold implf67
  rw [if_pos (by omega), write_loop l 0 ByteArray.empty hl (by show 0 + _ ≤ _; omega)]
  congr 1
theorem loop53 : ∀ (d : Nat) (l : List ByteArray) (j k : Nat) (s : Int) (b : ByteArray), (∀ o ∈ l, o.size ≤ 1000) → l.length ≤ 1000 → j ≤ l.length → l.length - j = d → d < k → b.size + d * 1002000 ≤ 140737488355328 →
    ∃ i, impll53_0 KK k l b s (j : Int) = some (b ++ ⟨(textF s ((l.drop j).map by_)).toArray⟩, i)
  | d, l, j, 0, s, b, _, _, _, _, h, _ => by omega
  | d, l, j, k + 1, s, b, hl, hn, hj, hd, hk, hb => by
    show ∃ i, implb53_0 KK (impll53_0 KK k) l b s _ = _
    unfold implb53_0
    rw [cdec]
    by_cases h : j < l.length
    · have ho : (l.getD j ByteArray.empty).size ≤ 1000 := hl _ (getD_mem _ h)
      have hd' := drop_getD (w := l) (j := j) ByteArray.empty h
      obtain ⟨o, he⟩ : ∃ o, o = l.getD j ByteArray.empty := ⟨_, rfl⟩
      have hlen := lineF_len (s := s) (o := by_ o) (by rw [by_len, he]; exact ho)
      rw [if_pos (by omega), if_pos (by omega), Int.toNat_natCast, ← he]
      rw [← he] at ho hd'
      have h66 := line66' s o ho
      unfold implf66 at h66
      rw [sum46 s o (by omega)] at h66
      rw [sum47 s o (by omega)]
      obtain ⟨t, ht⟩ : ∃ t, implf85 KK (sumF s (by_ o)) = some t := by
        have := sumF_rng s (by_ o)
        unfold implf85
        rw [if_pos ⟨by omega, by omega⟩]
        exact ⟨_, rfl⟩
      simp only [obS, ht] at h66 ⊢
      split at h66
      · rename_i c1
        split at h66
        · rename_i c2
          split at h66
          · rename_i c3
            have h66 := Option.some.inj h66
            have e1 := congrArg Prod.fst h66
            have e1 : t ++ ByteArray.mk #[(32 : UInt8)] ++ o ++ ByteArray.mk #[(10 : UInt8)] = ⟨(lineF s (by_ o)).toArray⟩ := e1
            rw [if_pos c1, if_pos (by omega), if_pos c2, if_pos c3, e1, if_pos (by rw [size_mk (lineF s (by_ o))]; omega), wrapS (by omega)]
            obtain ⟨i, e⟩ := loop53 (d - 1) l (j + 1) k (sumF s (by_ o)) (b ++ ⟨(lineF s (by_ o)).toArray⟩) hl hn (by omega) (by omega) (by omega) (by rw [size_app, size_mk (lineF s (by_ o))]; omega)
            refine ⟨i, e.trans ?_⟩
            congr 2
            rw [hd']
            apply by_ext
            rw [by_app, by_app, by_app, by_mk (lineF s (by_ o)), by_mk (textF (sumF s (by_ o)) ((l.drop (j + 1)).map by_)), by_mk (textF s ((o :: l.drop (j + 1)).map by_))]
            simp [textF]
          · cases h66
        · cases h66
      · cases h66
    · rw [if_neg (by omega), List.drop_of_length_le (by omega)]
      refine ⟨(s, (j : Int), ()), ?_⟩
      congr 2
      apply by_ext
      rw [by_app]
      simp [textF, by_]
theorem write53 (l : List ByteArray) (hl : ∀ o ∈ l, o.size ≤ 1000) (hn : l.length ≤ 1000) : implf53 KK l = some ⟨(textF 0 (l.map by_)).toArray⟩ := by
  unfold implf53
  obtain ⟨i, e⟩ := loop53 _ l 0 KK 0 (ByteArray.mk #[]) hl hn (Nat.zero_le _) rfl (by show _ < 1000000; omega) (by show 0 + _ ≤ _; omega)
  have e : impll53_0 KK KK l (ByteArray.mk #[]) 0 0 = _ := e
  rw [e]
  show some _ = _
  congr 1
/-- What both writers give. -/
noncomputable def wrF (l : List ByteArray) : ByteArray × Int :=
  if 100 < l.length then (ByteArray.mk #[], 3) else if ∀ o ∈ l, okText (by_ o) = true then (⟨(textF 0 (l.map by_)).toArray⟩, 0) else (ByteArray.mk #[], 1)
theorem all_getD {l : List ByteArray} {p : ByteArray → Prop} : (∀ i, 0 ≤ i → i < l.length → p (l.getD i ByteArray.empty)) ↔ ∀ o ∈ l, p o := by
  constructor
  · intro h o ho
    obtain ⟨i, hi, e⟩ := List.mem_iff_getElem.1 ho
    have := h i (Nat.zero_le _) hi
    rw [List.getD_eq_getElem?_getD, List.getElem?_eq_getElem hi] at this
    rw [← e]; exact this
  · intro h i _ hi
    exact h _ (getD_mem _ hi)
theorem write22 (l : List ByteArray) (hl : ∀ o ∈ l, o.size ≤ 1000) : implf22 KK l = some (wrF l) := by
  unfold implf22 wrF
  rw [cdec]
  by_cases hn : 100 < l.length
  · rw [if_pos (by omega), if_pos hn]
  · rw [if_neg (by omega), if_neg hn]
    have key := uptoAll (fun k (p : Nat) => impll22_0 KK k l l (l.length : Int) (p : Int)) (fun j => j) l.length (fun j => okText (by_ (l.getD j ByteArray.empty)) = true) (Sum.inl ((l.length : Int), ())) (Sum.inr (ByteArray.mk #[], (1 : Int), ()))
      (fun k j hj hp => by
        show implb22_0 KK (impll22_0 KK k) l l _ _ = _
        unfold implb22_0
        rw [cdec, if_pos (by omega), if_pos (by omega), Int.toNat_natCast, text65, hp, wrapS (by omega)]
        rfl)
      (fun k j hj hp => by
        show implb22_0 KK (impll22_0 KK k) l l _ _ = _
        unfold implb22_0
        have hp : okText (by_ (l.getD j ByteArray.empty)) = false := by simpa using hp
        rw [cdec, if_pos (by omega), if_pos (by omega), Int.toNat_natCast, text65, hp]
        rfl)
      (fun k => by
        show implb22_0 KK (impll22_0 KK k) l l _ _ = _
        unfold implb22_0
        rw [cdec, if_neg (by omega)])
    have key := key KK 0 (by show l.length - 0 < 1000000; omega) (Nat.zero_le _)
    have key : impll22_0 KK KK l l (l.length : Int) 0 = _ := key
    rw [key]
    by_cases h : ∀ o ∈ l, okText (by_ o) = true
    · rw [if_pos (all_getD (p := fun o => okText (by_ o) = true) |>.2 h), if_pos h]
      show ob (implf67 KK l) _ = _
      rw [write67 l hl (by omega)]; rfl
    · rw [if_neg (fun h2 => h (all_getD (p := fun o => okText (by_ o) = true) |>.1 h2)), if_neg h]
      rfl
theorem write48 (l : List ByteArray) (hl : ∀ o ∈ l, o.size ≤ 1000) : implf48 KK l = some (wrF l) := by
  unfold implf48 wrF
  rw [cdec]
  by_cases hn : 100 < l.length
  · rw [if_pos (by omega), if_pos hn]
  · rw [if_neg (by omega), if_neg hn]
    have key := uptoAll (fun k (p : Nat) => impll48_0 KK k l (p : Int)) (fun j => j) l.length (fun j => okText (by_ (l.getD j ByteArray.empty)) = true) (Sum.inl ((l.length : Int), ())) (Sum.inr (ByteArray.mk #[], (1 : Int), ()))
      (fun k j hj hp => by
        have hs := hl _ (getD_mem ByteArray.empty hj)
        show implb48_0 KK (impll48_0 KK k) l _ = _
        unfold implb48_0
        rw [cdec, if_pos (by omega), if_pos (by omega), Int.toNat_natCast, text84 _ (by omega), hp, wrapS (by omega)]
        rfl)
      (fun k j hj hp => by
        have hs := hl _ (getD_mem ByteArray.empty hj)
        show implb48_0 KK (impll48_0 KK k) l _ = _
        unfold implb48_0
        have hp : okText (by_ (l.getD j ByteArray.empty)) = false := by simpa using hp
        rw [cdec, if_pos (by omega), if_pos (by omega), Int.toNat_natCast, text84 _ (by omega), hp]
        rfl)
      (fun k => by
        show implb48_0 KK (impll48_0 KK k) l _ = _
        unfold implb48_0
        rw [cdec, if_neg (by omega)])
    have key := key KK 0 (by show l.length - 0 < 1000000; omega) (Nat.zero_le _)
    have key : impll48_0 KK KK l 0 = _ := key
    rw [key]
    by_cases h : ∀ o ∈ l, okText (by_ o) = true
    · rw [if_pos (all_getD (p := fun o => okText (by_ o) = true) |>.2 h), if_pos h]
      show ob (implf53 KK l) _ = _
      rw [write53 l hl (by omega)]; rfl
    · rw [if_neg (fun h2 => h (all_getD (p := fun o => okText (by_ o) = true) |>.1 h2)), if_neg h]
      rfl
theorem digits_len2 : ∀ (d n : Nat), n < 10 ^ d → (Lib.decDigits n).length ≤ max d 1
  | 0, n, h => by
    have : n = 0 := by simp at h; omega
    subst this
    unfold Lib.decDigits
    simp
  | d + 1, n, h => by
    unfold Lib.decDigits
    split
    · simp
    · have h2 : n / 10 < 10 ^ d := by
        rw [Nat.pow_succ] at h
        omega
      have := digits_len2 d (n / 10) h2
      have hd : 1 ≤ d := by
        rcases d with _ | d
        · simp at h2; omega
        · omega
      simp
      omega
theorem line_len60 {s : Int} {o : List UInt8} (h : okText o = true) : (lineF s o).length ≤ 60 := by
  have hr := sumF_rng s o
  have : (Lib.itoa (sumF s o)).length ≤ 7 := by
    unfold Lib.itoa
    rw [if_neg (by omega)]
    have := digits_len2 7 (sumF s o).toNat (by omega)
    simpa using this
  have ho : o.length ≤ 40 := by
    unfold okText at h
    simp only [Bool.and_eq_true, decide_eq_true_eq] at h
    exact h.1.2
  simp [lineF]
  omega
theorem textF_len : ∀ (l : List (List UInt8)) (s : Int), (∀ o ∈ l, okText o = true) → (textF s l).length ≤ l.length * 60
  | [], s, _ => by simp [textF]
  | o :: r, s, h => by
    have := textF_len r (sumF s o) (fun x hx => h x (by simp [hx]))
    have ho := line_len60 (s := s) (h o (by simp))
    simp only [textF, List.length_append, List.length_cons]
    omega

/-- A beginning of a book, read by the program. -/
theorem read19 (l : List ByteArray) (hl : ∀ o ∈ l, okText (by_ o) = true) (hn : l.length ≤ 100) (p : ByteArray) (q : List UInt8) (hp : by_ p ++ q = textF 0 (l.map by_)) :
    ∃ (j : Nat) (rest : ByteArray), implf19 KK p = some (l.take j, rest) ∧ j ≤ l.length ∧ (rest = ByteArray.mk #[] ∨ j < l.length) ∧ (q = [] → j = l.length ∧ rest = ByteArray.mk #[]) := by
  have hok : ∀ o ∈ l.map by_, okText o = true := by
    intro o ho
    obtain ⟨a, ha, rfl⟩ := List.mem_map.1 ho
    exact hl a ha
  have hlen := textF_len (l.map by_) 0 hok
  have hsz : p.size ≤ 100000 := by
    have := congrArg List.length hp
    rw [List.length_append, by_len] at this
    rw [List.length_map] at hlen
    omega
  obtain ⟨j, rest, s', e, h1, h2, h3⟩ := read_prefix (l.map by_) KK (by_ p) q [] 0 hok (by simp; omega) (by show 100 < 1000000 + 0; omega) hp
  rw [mk_by p] at e
  rw [List.length_map] at h1 h2 h3
  have hback : toB ((l.map by_).take j) = l.take j := by
    rw [← List.map_take]
    simp only [toB, List.map_map]
    conv => rhs; rw [← List.map_id (l.take j)]
    apply List.map_congr_left
    intro a _
    exact mk_by a
  refine ⟨j, ⟨rest.toArray⟩, ?_, h1, h2.imp (fun h => by rw [h]) id, fun hq => ⟨(h3 hq).1, by rw [(h3 hq).2]⟩⟩
  unfold implf19
  rw [eq19 _ _ _ _ hsz, e]
  show some (_, _) = some (_, _)
  rw [hback]
  rfl

theorem coreStationWrites (l : List ByteArray) (keep : Int) (hl : l.length ≤ 9223372036854775807) : ∃ K, implf9 K l keep = some true := by
  by_cases hL : isLong l
  · refine ⟨(l.length + 1000) + 60, ?_⟩
    unfold implf9
    rw [long26 _ l hl (by omega), decide_eq_true hL, saneK]
    rfl
  · refine ⟨KK, ?_⟩
    obtain ⟨hn, hsz⟩ := notLong hL
    have hsz' : ∀ o ∈ l, o.size ≤ 1000 := fun o ho => Nat.le_trans (hsz o ho) (by omega)
    have hs := sane
    unfold implf9
    rw [long26 KK l hl (by show l.length < 1000000; omega), decide_eq_false hL, write22 l hsz', write48 l hsz', hs]
    simp only [obS, beqB, cond_false, decide_true, Bool.not_true]
    have hne : ∀ z : Int, (z != z) = false := fun z => by simp
    rw [hne]
    simp only [cond_false]
    unfold wrF
    by_cases h1 : 100 < l.length
    · rw [if_pos h1]; rfl
    · rw [if_neg h1]
      by_cases h2 : ∀ o ∈ l, okText (by_ o) = true
      · rw [if_pos h2]
        obtain ⟨A, hA⟩ : ∃ A : ByteArray, A = ⟨(textF 0 (l.map by_)).toArray⟩ := ⟨_, rfl⟩
        have hbA : by_ A = textF 0 (l.map by_) := by rw [hA]
        have hAs : A.size ≤ 6000 := by
          have hlen := textF_len (l.map by_) 0 (by
            intro o ho
            obtain ⟨a, ha, rfl⟩ := List.mem_map.1 ho
            exact h2 a ha)
          rw [List.length_map, ← hbA, by_len] at hlen
          omega
        rw [← hA]
        obtain ⟨j, rest, e, h3, -, h5⟩ := read19 l h2 (by omega) A [] (by rw [hbA]; simp)
        obtain ⟨hj, hrest⟩ := h5 rfl
        subst hrest
        subst hj
        rw [List.take_length] at e
        have e0 : (((0 : Int) != 0)) = false := rfl
        simp only [e0, cond_false]
        rw [e]
        simp only [obS, decide_true, Bool.not_true, cond_false]
        rw [same45 _ _ (by omega)]
        simp only [obS, decide_true, Bool.not_true, cond_false]
        have hu := wrapB (j := A.size) (by omega)
        rw [hu]
        have hu2 : IntKind.u64.wrap (((A.size + 1 : Nat)) : Int) = ((A.size + 1 : Nat) : Int) := by
          exact IntWalk.u64_in _ ⟨by omega, by omega⟩
        rw [hu2, if_neg (by omega)]
        have hm0 : 0 ≤ IntKind.u64.wrap keep := by
          simp only [IntKind.wrap_u64]
          omega
        obtain ⟨c, hc⟩ : ∃ c : Nat, IntKind.i64.wrap ((IntKind.u64.wrap keep).tmod ((A.size + 1 : Nat) : Int)) = (c : Int) ∧ c ≤ A.size := by
          have h6 := Int.emod_nonneg (IntKind.u64.wrap keep) (show ((A.size + 1 : Nat) : Int) ≠ 0 by omega)
          have h7 := Int.emod_lt_of_pos (IntKind.u64.wrap keep) (show (0 : Int) < ((A.size + 1 : Nat) : Int) by omega)
          rw [Int.tmod_eq_emod_of_nonneg hm0]
          refine ⟨(IntKind.u64.wrap keep % ((A.size + 1 : Nat) : Int)).toNat, ?_, by omega⟩
          rw [wrapI (by omega) (by omega)]
          omega
        rw [hc.1, if_pos (by omega)]
        have hp : by_ (A.extract 0 ((c : Int)).toNat) ++ (by_ A).drop c = textF 0 (l.map by_) := by
          rw [by_ext_cut, Int.toNat_natCast, List.drop_zero, List.take_append_drop, hbA]
        obtain ⟨j, rest, e, h3, h4, -⟩ := read19 l h2 (by omega) _ _ hp
        rw [e]
        have hjl : (l.take j).length = j := by rw [List.length_take]; omega
        simp only [obS, hjl]
        rw [cdec, if_pos (by omega), if_pos (by omega), Int.toNat_natCast, same45 _ _ (by rw [hjl]; omega)]
        simp only [obS, decide_true, cond_true, cdec]
        rcases h4 with h4 | h4
        · rw [if_pos h4]
        · by_cases h6 : rest = ByteArray.mk #[]
          · rw [if_pos h6]
          · rw [if_neg h6, if_pos (by omega)]
      · rw [if_neg h2]; rfl
end Go.Proofs.YtbpjodikknbcoaaGreatDoor
