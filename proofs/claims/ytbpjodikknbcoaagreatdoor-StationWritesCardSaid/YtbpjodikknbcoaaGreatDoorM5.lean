/- What the writers give, and which lists are too long for a statement. -/
import Derived.Test.YtbpjodikknbcoaaGreatDoorM4
set_option maxRecDepth 100000
set_option linter.unusedVariables false
set_option linter.unusedSimpArgs false
namespace Go.Proofs.YtbpjodikknbcoaaGreatDoor
open Go Go.Pv

theorem saneK (K : Nat) : implf27 (K + 60) = some true := by kernel_rfl
abbrev isLong (l : List ByteArray) : Prop := (∃ i, i < l.length ∧ 400 < (l.getD i ByteArray.empty).size) ∨ 300 < l.length
theorem wrapB {j : Nat} (h : j + 1 ≤ 9223372036854775807) : IntKind.i64.wrap ((j : Int) + 1) = ((j + 1 : Nat) : Int) := by
  rw [wrapI (by omega) (by omega)]; rfl
open Classical in
theorem long26 (K : Nat) (l : List ByteArray) (hl : l.length ≤ 9223372036854775807) (hK : l.length < K) : implf26 K l = some (decide (isLong l)) := by
  unfold implf26
  have key := uptoAll (fun k (p : Nat) => impll26_0 K k l (p : Int)) (fun j => j) l.length (fun j => (l.getD j ByteArray.empty).size ≤ 400) (Sum.inl ((l.length : Int), ())) (Sum.inr true)
    (fun k j hj hp => by
      show implb26_0 K (impll26_0 K k) l _ = _
      unfold implb26_0
      have e : ¬ ((l.getD ((j : Int)).toNat ByteArray.empty).size : Int) > 400 := by rw [Int.toNat_natCast]; omega
      rw [cdec, if_pos (by omega), if_pos (by omega), cdec, if_neg e, wrapB (by omega)])
    (fun k j hj hp => by
      show implb26_0 K (impll26_0 K k) l _ = _
      unfold implb26_0
      have e : ((l.getD ((j : Int)).toNat ByteArray.empty).size : Int) > 400 := by rw [Int.toNat_natCast]; omega
      rw [cdec, if_pos (by omega), if_pos (by omega), cdec, if_pos e])
    (fun k => by
      show implb26_0 K (impll26_0 K k) l _ = _
      unfold implb26_0
      rw [cdec, if_neg (by omega)])
  have key := key K 0 (by omega) (Nat.zero_le _)
  by_cases h : ∀ i, 0 ≤ i → i < l.length → (l.getD i ByteArray.empty).size ≤ 400
  · rw [if_pos h] at key
    have key : impll26_0 K K l 0 = _ := key
    rw [key]
    show some (decide ((l.length : Int) > 300)) = _
    congr 1
    by_cases h2 : 300 < l.length
    · rw [decide_eq_true (show (l.length : Int) > 300 by omega), decide_eq_true (show isLong l from .inr h2)]
    · rw [decide_eq_false (show ¬ (l.length : Int) > 300 by omega), decide_eq_false]
      rintro (⟨i, h3, h4⟩ | h3)
      · have := h i (Nat.zero_le _) h3; omega
      · exact h2 h3
  · rw [if_neg h] at key
    have key : impll26_0 K K l 0 = _ := key
    rw [key]
    show some true = _
    rw [decide_eq_true]
    simp only [Classical.not_forall] at h
    obtain ⟨i, -, h3, h4⟩ := h
    exact .inl ⟨i, h3, by omega⟩
theorem notLong {l : List ByteArray} (h : ¬ isLong l) : l.length ≤ 300 ∧ ∀ o ∈ l, o.size ≤ 400 := by
  refine ⟨?_, fun o ho => ?_⟩
  · exact Nat.not_lt.1 fun h2 => h (.inr h2)
  · obtain ⟨i, hi, e⟩ := List.mem_iff_getElem.1 ho
    apply Nat.not_lt.1
    intro h2
    refine h (.inl ⟨i, hi, ?_⟩)
    rw [List.getD_eq_getElem?_getD, List.getElem?_eq_getElem hi]
    show 400 < (l[i]).size
    rw [e]; exact h2

theorem lineF_len {s : Int} {o : List UInt8} (h : o.length ≤ 1000) : (lineF s o).length ≤ 1002000 := by
  have := itoa_len (sumF_rng s o)
  simp [lineF]
  omega
theorem line66' (s : Int) (o : ByteArray) (ho : o.size ≤ 1000) : implf66 KK s o = some (⟨(lineF s (by_ o)).toArray⟩, sumF s (by_ o)) := by
  rw [line66 s o (by omega)]; rfl
theorem write_loop : ∀ (l : List ByteArray) (s : Int) (b : ByteArray), (∀ o ∈ l, o.size ≤ 1000) → b.size + l.length * 1002000 ≤ 140737488355328 →
    writeR (implf66 KK) s b l = some (b ++ ⟨(textF s (l.map by_)).toArray⟩)
  | [], s, b, _, _ => by
    show some b = _
    congr 1
    apply by_ext
    rw [by_app]
    simp [textF, by_]
  | o :: r, s, b, hl, hb => by
    have ho := hl o (by simp)
    have hlen := lineF_len (s := s) (o := by_ o) ho
    simp only [List.length_cons] at hb
    show ob (implf66 KK s o) _ = _
    rw [line66' s o ho]
    show (if b.size + (⟨(lineF s (by_ o)).toArray⟩ : ByteArray).size ≤ 140737488355328 then _ else none) = _
    rw [if_pos (by rw [size_mk (lineF s (by_ o))]; omega)]
    show writeR (implf66 KK) (sumF s (by_ o)) (b ++ ⟨(lineF s (by_ o)).toArray⟩) r = _
    rw [write_loop r _ _ (fun x hx => hl x (by simp [hx])) (by rw [size_app, size_mk (lineF s (by_ o))]; omega)]
    congr 1
    apply by_ext
    rw [by_app, by_app, by_app, by_mk (lineF s (by_ o)), by_mk (textF (sumF s (by_ o)) (r.map by_)), by_mk (textF s ((o :: r).map by_))]
    simp [textF]
theorem write67 (l : List ByteArray) (hl : ∀ o ∈ l, o.size ≤ 1000) (hn : l.length ≤ 1000) : implf67 KK l = some ⟨(textF 0 (l.map by_)).toArray⟩ := by
  unfold implf67
  rw [if_pos (by omega), write_loop l 0 ByteArray.empty hl (by show 0 + _ ≤ _; omega)]
  congr 1
theorem loop53 : ∀ (d : Nat) (l : List ByteArray) (j k : Nat) (s : Int) (b : ByteArray), (∀ o ∈ l, o.size ≤ 1000) → l.length ≤ 1000 → j ≤ l.length → l.length - j = d → d < k → b.size + d * 1002000 ≤ 140737488355328 →
    ∃ i, impll53_0 KK k l b s (j : Int) = some (b ++ ⟨(textF s ((l.drop j).map by_)).toArray⟩, i)
  | d, l, j, 0, s, b, _, _, _, _, h, _ => by omega
  | d, l, j, k + 1, s, b, hl, hn, hj, hd, hk, hb => by
    show ∃ i, implb53_0 KK (impll53_0 KK k) l b s _ = _
    unfold implb53_0
    rw [cdec]
    by_cases h : j < l.length
    · have ho : (l.getD j ByteArray.empty).size ≤ 1000 := hl _ (getD_mem _ h)
      have hd' := drop_getD (w := l) (j := j) ByteArray.empty h
      obtain ⟨o, he⟩ : ∃ o, o = l.getD j ByteArray.empty := ⟨_, rfl⟩
      have hlen := lineF_len (s := s) (o := by_ o) (by rw [by_len, he]; exact ho)
      rw [if_pos (by omega), if_pos (by omega), Int.toNat_natCast, ← he]
      rw [← he] at ho hd'
      have h66 := line66' s o ho
      unfold implf66 at h66
      rw [sum46 s o (by omega)] at h66
      rw [sum47 s o (by omega)]
      obtain ⟨t, ht⟩ : ∃ t, implf85 KK (sumF s (by_ o)) = some t := by
        have := sumF_rng s (by_ o)
        unfold implf85
        rw [if_pos ⟨by omega, by omega⟩]
        exact ⟨_, rfl⟩
      simp only [obS, ht] at h66 ⊢
      split at h66
      · rename_i c1
        split at h66
        · rename_i c2
          split at h66
          · rename_i c3
            have h66 := Option.some.inj h66
            have e1 := congrArg Prod.fst h66
            have e1 : t ++ ByteArray.mk #[(32 : UInt8)] ++ o ++ ByteArray.mk #[(10 : UInt8)] = ⟨(lineF s (by_ o)).toArray⟩ := e1
            rw [if_pos c1, if_pos (by omega), if_pos c2, if_pos c3, e1, if_pos (by rw [size_mk (lineF s (by_ o))]; omega), wrapS (by omega)]
            obtain ⟨i, e⟩ := loop53 (d - 1) l (j + 1) k (sumF s (by_ o)) (b ++ ⟨(lineF s (by_ o)).toArray⟩) hl hn (by omega) (by omega) (by omega) (by rw [size_app, size_mk (lineF s (by_ o))]; omega)
            refine ⟨i, e.trans ?_⟩
            congr 2
            rw [hd']
            apply by_ext
            rw [by_app, by_app, by_app, by_mk (lineF s (by_ o)), by_mk (textF (sumF s (by_ o)) ((l.drop (j + 1)).map by_)), by_mk (textF s ((o :: l.drop (j + 1)).map by_))]
            simp [textF]
          · cases h66
        · cases h66
      · cases h66
    · rw [if_neg (by omega), List.drop_of_length_le (by omega)]
      refine ⟨(s, (j : Int), ()), ?_⟩
      congr 2
      apply by_ext
      rw [by_app]
      simp [textF, by_]
theorem write53 (l : List ByteArray) (hl : ∀ o ∈ l, o.size ≤ 1000) (hn : l.length ≤ 1000) : implf53 KK l = some ⟨(textF 0 (l.map by_)).toArray⟩ := by
  unfold implf53
  obtain ⟨i, e⟩ := loop53 _ l 0 KK 0 (ByteArray.mk #[]) hl hn (Nat.zero_le _) rfl (by show _ < 1000000; omega) (by show 0 + _ ≤ _; omega)
  have e : impll53_0 KK KK l (ByteArray.mk #[]) 0 0 = _ := e
  rw [e]
  show some _ = _
  congr 1
end Go.Proofs.YtbpjodikknbcoaaGreatDoor
