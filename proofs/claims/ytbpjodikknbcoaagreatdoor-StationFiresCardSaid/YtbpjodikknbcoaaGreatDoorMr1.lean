/- The mathematics of stations, part 1. -/
import Derived.Test.YtbpjodikknbcoaaGreatDoorFr3
import Derived.Lib.IndexBytes
import Derived.Lib.ItoaNum
import Derived.Lib.AtoiAll
import Derived.Lib.AtoiTie
import Derived.KernelRfl
import Derived.Lib.AtoiAllCases
set_option maxRecDepth 1000000
set_option linter.unusedVariables false
set_option linter.unusedSimpArgs false
namespace Go.Proofs.YtbpjodikknbcoaaGreatDoor
open Go Go.Pv
abbrev KK : Nat := 1000000
theorem sane : implf27 KK = some true := by kernel_rfl

abbrev by_ (a : ByteArray) : List UInt8 := a.data.toList
theorem beqB (a b : ByteArray) : (a.toList == b.toList) = decide (a = b) := by
  rw [ByteArray.toList_eq, ByteArray.toList_eq]
  by_cases h : a = b
  · subst h; simp
  · have : a.data.toList ≠ b.data.toList := fun e => h (ByteArray.ext (Array.ext' e))
    rw [decide_eq_false h]; exact beq_eq_false_iff_ne.2 this
theorem by_len (a : ByteArray) : (by_ a).length = a.size := rfl
theorem by_app (a b : ByteArray) : by_ (a ++ b) = by_ a ++ by_ b := by simp [by_]
def okText (l : List UInt8) : Bool := decide (1 ≤ l.length) && decide (l.length ≤ 40) && !l.contains 10
/-- Where a letter stands first; the length, if nowhere. -/
def fi (c : UInt8) : List UInt8 → Nat
  | [] => 0
  | x :: r => if x = c then 0 else fi c r + 1
theorem fi_le (c : UInt8) : ∀ l, fi c l ≤ l.length
  | [] => Nat.le_refl _
  | x :: r => by
    have := fi_le c r
    unfold fi
    split
    · exact Nat.zero_le _
    · simp; omega
theorem fi_at (c : UInt8) : ∀ (l : List UInt8), fi c l < l.length → l.getD (fi c l) 0 = c
  | [], h => by simp at h
  | x :: r, h => by
    unfold fi at h ⊢
    split
    · rename_i hx; simpa using hx
    · rename_i hx
      rw [if_neg hx] at h
      simpa using fi_at c r (by simpa using h)
theorem index_fi (c : UInt8) : ∀ (l : List UInt8), Lib.indexByte l c = if fi c l < l.length then (fi c l : Int) else -1
  | [] => by simp [Lib.indexByte]
  | x :: r => by
    have ih := index_fi c r
    unfold Lib.indexByte fi
    by_cases hx : x = c
    · subst hx; simp
    · have h1 : (x == c) = false := beq_eq_false_iff_ne.2 hx
      rw [h1, ih]
      simp only [Bool.false_eq_true, if_false, List.length_cons, hx]
      by_cases h : fi c r < r.length
      · have h2 : fi c r + 1 < r.length + 1 := by omega
        simp only [h, h2, if_true]
        have : ((fi c r : Int) == -1) = false := beq_eq_false_iff_ne.2 (by omega)
        rw [this]
        simp
      · have h2 : ¬ fi c r + 1 < r.length + 1 := by omega
        simp only [h, h2, if_false]
        rfl
theorem cut_fi (l : List UInt8) (c : UInt8) : Lib.cut l [c] = if fi c l < l.length then (l.take (fi c l), l.drop (fi c l + 1), true) else (l, [], false) := by
  unfold Lib.cut
  rw [Lib.index_one, index_fi]
  by_cases h : fi c l < l.length
  · rw [if_pos h, if_pos h, if_pos (by omega)]; simp
  · rw [if_neg h, if_neg h]; rfl

theorem cut64 (x : ByteArray) (c : UInt8) (hx : x.size ≤ 9223372036854775807) : implf64 KK x (ByteArray.mk #[c]) =
    some (⟨((by_ x).take (fi c (by_ x))).toArray⟩, ⟨((by_ x).drop (fi c (by_ x) + 1)).toArray⟩, decide (fi c (by_ x) < (by_ x).length)) := by
  unfold implf64
  rw [if_pos (Or.inr ⟨rfl, hx⟩)]
  show some (_, _, (Lib.cut (by_ x) [c]).2.2) = _
  have e : (ByteArray.mk #[c]).data.toList = [c] := rfl
  rw [e, cut_fi]
  have hle := fi_le c (by_ x)
  by_cases h : fi c (by_ x) < (by_ x).length
  · rw [if_pos h, decide_eq_true h]
  · rw [if_neg h, decide_eq_false h, List.take_of_length_le (by omega), List.drop_of_length_le (by omega)]

theorem size_mk (l : List UInt8) : (⟨l.toArray⟩ : ByteArray).size = l.length := rfl
theorem size_app (a b : ByteArray) : (a ++ b).size = a.size + b.size := by rw [← by_len, by_app]; simp [by_len]

theorem digit_rng : ∀ (n : Nat) (c : UInt8), c ∈ Lib.decDigits n → 48 ≤ c.toNat ∧ c.toNat ≤ 57 := by
  intro n
  induction n using Nat.strongRecOn with
  | _ n ih =>
    intro c hc
    unfold Lib.decDigits at hc
    split at hc
    · rename_i h
      simp only [List.mem_singleton] at hc
      subst hc
      rw [UInt8.toNat_ofNat']
      omega
    · rename_i h
      rw [List.mem_append] at hc
      rcases hc with hc | hc
      · exact ih (n / 10) (by omega) c hc
      · simp only [List.mem_singleton] at hc
        subst hc
        rw [UInt8.toNat_ofNat']
        omega
theorem saneK (K : Nat) : implf27 (K + 60) = some true := by kernel_rfl
abbrev isLong (l : List ByteArray) : Prop := (∃ i, i < l.length ∧ 400 < (l.getD i ByteArray.empty).size) ∨ 300 < l.length
theorem wrapB {j : Nat} (h : j + 1 ≤ 9223372036854775807) : IntKind.i64.wrap ((j : Int) + 1) = ((j + 1 : Nat) : Int) := by
  rw [wrapI (by omega) (by omega)]; rfl
open Classical in
theorem long26 (K : Nat) (l : List ByteArray) (hl : l.length ≤ 9223372036854775807) (hK : l.length < K) : implf26 K l = some (decide (isLong l)) := by
  unfold implf26
  have key := uptoAll (fun k (p : Nat) => impll26_0 K k l (p : Int)) (fun j => j) l.length (fun j => (l.getD j ByteArray.empty).size ≤ 400) (Sum.inl ((l.length : Int), ())) (Sum.inr true)
    (fun k j hj hp => by
      show implb26_0 K (impll26_0 K k) l _ = _
      unfold implb26_0
      have e : ¬ ((l.getD ((j : Int)).toNat ByteArray.empty).size : Int) > 400 := by rw [Int.toNat_natCast]; omega
      rw [cdec, if_pos (by omega), if_pos (by omega), cdec, if_neg e, wrapB (by omega)])
    (fun k j hj hp => by
      show implb26_0 K (impll26_0 K k) l _ = _
      unfold implb26_0
      have e : ((l.getD ((j : Int)).toNat ByteArray.empty).size : Int) > 400 := by rw [Int.toNat_natCast]; omega
      rw [cdec, if_pos (by omega), if_pos (by omega), cdec, if_pos e])
    (fun k => by
      show implb26_0 K (impll26_0 K k) l _ = _
      unfold implb26_0
      rw [cdec, if_neg (by omega)])
  have key := key K 0 (by omega) (Nat.zero_le _)
  by_cases h : ∀ i, 0 ≤ i → i < l.length → (l.getD i ByteArray.empty).size ≤ 400
  · rw [if_pos h] at key
    have key : impll26_0 K K l 0 = _ := key
    rw [key]
    show some (decide ((l.length : Int) > 300)) = _
    congr 1
    by_cases h2 : 300 < l.length
    · rw [decide_eq_true (show (l.length : Int) > 300 by omega), decide_eq_true (show isLong l from .inr h2)]
    · rw [decide_eq_false (show ¬ (l.length : Int) > 300 by omega), decide_eq_false]
      rintro (⟨i, h3, h4⟩ | h3)
      · have := h i (Nat.zero_le _) h3; omega
      · exact h2 h3
  · rw [if_neg h] at key
    have key : impll26_0 K K l 0 = _ := key
    rw [key]
    show some true = _
    rw [decide_eq_true]
    simp only [Classical.not_forall] at h
    obtain ⟨i, -, h3, h4⟩ := h
    exact .inl ⟨i, h3, by omega⟩
theorem notLong {l : List ByteArray} (h : ¬ isLong l) : l.length ≤ 300 ∧ ∀ o ∈ l, o.size ≤ 400 := by
  refine ⟨?_, fun o ho => ?_⟩
  · exact Nat.not_lt.1 fun h2 => h (.inr h2)
  · obtain ⟨i, hi, e⟩ := List.mem_iff_getElem.1 ho
    apply Nat.not_lt.1
    intro h2
    refine h (.inl ⟨i, hi, ?_⟩)
    rw [List.getD_eq_getElem?_getD, List.getElem?_eq_getElem hi]
    show 400 < (l[i]).size
    rw [e]; exact h2
end Go.Proofs.YtbpjodikknbcoaaGreatDoor
