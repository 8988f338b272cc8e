/- The books of orders, by both writers. -/
import Derived.Test.YtbpjodikknbcoaaGreatDoorM5
set_option maxRecDepth 100000
set_option linter.unusedVariables false
set_option linter.unusedSimpArgs false
namespace Go.Proofs.YtbpjodikknbcoaaGreatDoor
open Go Go.Pv

/-- What both writers give. -/
noncomputable def wrF (l : List ByteArray) : ByteArray × Int :=
  if 100 < l.length then (ByteArray.mk #[], 3) else if ∀ o ∈ l, okText (by_ o) = true then (⟨(textF 0 (l.map by_)).toArray⟩, 0) else (ByteArray.mk #[], 1)
theorem all_getD {l : List ByteArray} {p : ByteArray → Prop} : (∀ i, 0 ≤ i → i < l.length → p (l.getD i ByteArray.empty)) ↔ ∀ o ∈ l, p o := by
  constructor
  · intro h o ho
    obtain ⟨i, hi, e⟩ := List.mem_iff_getElem.1 ho
    have := h i (Nat.zero_le _) hi
    rw [List.getD_eq_getElem?_getD, List.getElem?_eq_getElem hi] at this
    rw [← e]; exact this
  · intro h i _ hi
    exact h _ (getD_mem _ hi)
theorem write22 (l : List ByteArray) (hl : ∀ o ∈ l, o.size ≤ 1000) : implf22 KK l = some (wrF l) := by
  unfold implf22 wrF
  rw [cdec]
  by_cases hn : 100 < l.length
  · rw [if_pos (by omega), if_pos hn]
  · rw [if_neg (by omega), if_neg hn]
    have key := uptoAll (fun k (p : Nat) => impll22_0 KK k l l (l.length : Int) (p : Int)) (fun j => j) l.length (fun j => okText (by_ (l.getD j ByteArray.empty)) = true) (Sum.inl ((l.length : Int), ())) (Sum.inr (ByteArray.mk #[], (1 : Int), ()))
      (fun k j hj hp => by
        show implb22_0 KK (impll22_0 KK k) l l _ _ = _
        unfold implb22_0
        rw [cdec, if_pos (by omega), if_pos (by omega), Int.toNat_natCast, text65, hp, wrapS (by omega)]
        rfl)
      (fun k j hj hp => by
        show implb22_0 KK (impll22_0 KK k) l l _ _ = _
        unfold implb22_0
        have hp : okText (by_ (l.getD j ByteArray.empty)) = false := by simpa using hp
        rw [cdec, if_pos (by omega), if_pos (by omega), Int.toNat_natCast, text65, hp]
        rfl)
      (fun k => by
        show implb22_0 KK (impll22_0 KK k) l l _ _ = _
        unfold implb22_0
        rw [cdec, if_neg (by omega)])
    have key := key KK 0 (by show l.length - 0 < 1000000; omega) (Nat.zero_le _)
    have key : impll22_0 KK KK l l (l.length : Int) 0 = _ := key
    rw [key]
    by_cases h : ∀ o ∈ l, okText (by_ o) = true
    · rw [if_pos (all_getD (p := fun o => okText (by_ o) = true) |>.2 h), if_pos h]
      show ob (implf67 KK l) _ = _
      rw [write67 l hl (by omega)]; rfl
    · rw [if_neg (fun h2 => h (all_getD (p := fun o => okText (by_ o) = true) |>.1 h2)), if_neg h]
      rfl
theorem write48 (l : List ByteArray) (hl : ∀ o ∈ l, o.size ≤ 1000) : implf48 KK l = some (wrF l) := by
  unfold implf48 wrF
  rw [cdec]
  by_cases hn : 100 < l.length
  · rw [if_pos (by omega), if_pos hn]
  · rw [if_neg (by omega), if_neg hn]
    have key := uptoAll (fun k (p : Nat) => impll48_0 KK k l (p : Int)) (fun j => j) l.length (fun j => okText (by_ (l.getD j ByteArray.empty)) = true) (Sum.inl ((l.length : Int), ())) (Sum.inr (ByteArray.mk #[], (1 : Int), ()))
      (fun k j hj hp => by
        have hs := hl _ (getD_mem ByteArray.empty hj)
        show implb48_0 KK (impll48_0 KK k) l _ = _
        unfold implb48_0
        rw [cdec, if_pos (by omega), if_pos (by omega), Int.toNat_natCast, text84 _ (by omega), hp, wrapS (by omega)]
        rfl)
      (fun k j hj hp => by
        have hs := hl _ (getD_mem ByteArray.empty hj)
        show implb48_0 KK (impll48_0 KK k) l _ = _
        unfold implb48_0
        have hp : okText (by_ (l.getD j ByteArray.empty)) = false := by simpa using hp
        rw [cdec, if_pos (by omega), if_pos (by omega), Int.toNat_natCast, text84 _ (by omega), hp]
        rfl)
      (fun k => by
        show implb48_0 KK (impll48_0 KK k) l _ = _
        unfold implb48_0
        rw [cdec, if_neg (by omega)])
    have key := key KK 0 (by show l.length - 0 < 1000000; omega) (Nat.zero_le _)
    have key : impll48_0 KK KK l 0 = _ := key
    rw [key]
    by_cases h : ∀ o ∈ l, okText (by_ o) = true
    · rw [if_pos (all_getD (p := fun o => okText (by_ o) = true) |>.2 h), if_pos h]
      show ob (implf53 KK l) _ = _
      rw [write53 l hl (by omega)]; rfl
    · rw [if_neg (fun h2 => h (all_getD (p := fun o => okText (by_ o) = true) |>.1 h2)), if_neg h]
      rfl
theorem digits_len2 : ∀ (d n : Nat), n < 10 ^ d → (Lib.decDigits n).length ≤ max d 1
  | 0, n, h => by
    have : n = 0 := by simp at h; omega
    subst this
    unfold Lib.decDigits
    simp
  | d + 1, n, h => by
    unfold Lib.decDigits
    split
    · simp
    · have h2 : n / 10 < 10 ^ d := by
        rw [Nat.pow_succ] at h
        omega
      have := digits_len2 d (n / 10) h2
      have hd : 1 ≤ d := by
        rcases d with _ | d
        · simp at h2; omega
        · omega
      simp
      omega
theorem line_len60 {s : Int} {o : List UInt8} (h : okText o = true) : (lineF s o).length ≤ 60 := by
  have hr := sumF_rng s o
  have : (Lib.itoa (sumF s o)).length ≤ 7 := by
    unfold Lib.itoa
    rw [if_neg (by omega)]
    have := digits_len2 7 (sumF s o).toNat (by omega)
    simpa using this
  have ho : o.length ≤ 40 := by
    unfold okText at h
    simp only [Bool.and_eq_true, decide_eq_true_eq] at h
    exact h.1.2
  simp [lineF]
  omega
theorem textF_len : ∀ (l : List (List UInt8)) (s : Int), (∀ o ∈ l, okText o = true) → (textF s l).length ≤ l.length * 60
  | [], s, _ => by simp [textF]
  | o :: r, s, h => by
    have := textF_len r (sumF s o) (fun x hx => h x (by simp [hx]))
    have ho := line_len60 (s := s) (h o (by simp))
    simp only [textF, List.length_append, List.length_cons]
    omega

/-- A beginning of a book, read by the program. -/
theorem read19 (l : List ByteArray) (hl : ∀ o ∈ l, okText (by_ o) = true) (hn : l.length ≤ 100) (p : ByteArray) (q : List UInt8) (hp : by_ p ++ q = textF 0 (l.map by_)) :
    ∃ (j : Nat) (rest : ByteArray), implf19 KK p = some (l.take j, rest) ∧ j ≤ l.length ∧ (rest = ByteArray.mk #[] ∨ j < l.length) ∧ (q = [] → j = l.length ∧ rest = ByteArray.mk #[]) := by
  have hok : ∀ o ∈ l.map by_, okText o = true := by
    intro o ho
    obtain ⟨a, ha, rfl⟩ := List.mem_map.1 ho
    exact hl a ha
  have hlen := textF_len (l.map by_) 0 hok
  have hsz : p.size ≤ 100000 := by
    have := congrArg List.length hp
    rw [List.length_append, by_len] at this
    rw [List.length_map] at hlen
    omega
  obtain ⟨j, rest, s', e, h1, h2, h3⟩ := read_prefix (l.map by_) KK (by_ p) q [] 0 hok (by simp; omega) (by show 100 < 1000000 + 0; omega) hp
  rw [mk_by p] at e
  rw [List.length_map] at h1 h2 h3
  have hback : toB ((l.map by_).take j) = l.take j := by
    rw [← List.map_take]
    simp only [toB, List.map_map]
    conv => rhs; rw [← List.map_id (l.take j)]
    apply List.map_congr_left
    intro a _
    exact mk_by a
  refine ⟨j, ⟨rest.toArray⟩, ?_, h1, h2.imp (fun h => by rw [h]) id, fun hq => ⟨(h3 hq).1, by rw [(h3 hq).2]⟩⟩
  unfold implf19
  rw [eq19 _ _ _ _ hsz, e]
  show some (_, _) = some (_, _)
  rw [hback]
  rfl

theorem coreStationWrites (l : List ByteArray) (keep : Int) (hl : l.length ≤ 9223372036854775807) : ∃ K, implf9 K l keep = some true := by
  by_cases hL : isLong l
  · refine ⟨(l.length + 1000) + 60, ?_⟩
    unfold implf9
    rw [long26 _ l hl (by omega), decide_eq_true hL, saneK]
    rfl
  · refine ⟨KK, ?_⟩
    obtain ⟨hn, hsz⟩ := notLong hL
    have hsz' : ∀ o ∈ l, o.size ≤ 1000 := fun o ho => Nat.le_trans (hsz o ho) (by omega)
    have hs := sane
    unfold implf9
    rw [long26 KK l hl (by show l.length < 1000000; omega), decide_eq_false hL, write22 l hsz', write48 l hsz', hs]
    simp only [obS, beqB, cond_false, decide_true, Bool.not_true]
    have hne : ∀ z : Int, (z != z) = false := fun z => by simp
    rw [hne]
    simp only [cond_false]
    unfold wrF
    by_cases h1 : 100 < l.length
    · rw [if_pos h1]; rfl
    · rw [if_neg h1]
      by_cases h2 : ∀ o ∈ l, okText (by_ o) = true
      · rw [if_pos h2]
        obtain ⟨A, hA⟩ : ∃ A : ByteArray, A = ⟨(textF 0 (l.map by_)).toArray⟩ := ⟨_, rfl⟩
        have hbA : by_ A = textF 0 (l.map by_) := by rw [hA]
        have hAs : A.size ≤ 6000 := by
          have hlen := textF_len (l.map by_) 0 (by
            intro o ho
            obtain ⟨a, ha, rfl⟩ := List.mem_map.1 ho
            exact h2 a ha)
          rw [List.length_map, ← hbA, by_len] at hlen
          omega
        rw [← hA]
        obtain ⟨j, rest, e, h3, -, h5⟩ := read19 l h2 (by omega) A [] (by rw [hbA]; simp)
        obtain ⟨hj, hrest⟩ := h5 rfl
        subst hrest
        subst hj
        rw [List.take_length] at e
        have e0 : (((0 : Int) != 0)) = false := rfl
        simp only [e0, cond_false]
        rw [e]
        simp only [obS, decide_true, Bool.not_true, cond_false]
        rw [same45 _ _ (by omega)]
        simp only [obS, decide_true, Bool.not_true, cond_false]
        have hu := wrapB (j := A.size) (by omega)
        rw [hu]
        have hu2 : IntKind.u64.wrap (((A.size + 1 : Nat)) : Int) = ((A.size + 1 : Nat) : Int) := by
          exact IntWalk.u64_in _ ⟨by omega, by omega⟩
        rw [hu2, if_neg (by omega)]
        have hm0 : 0 ≤ IntKind.u64.wrap keep := by
          simp only [IntKind.wrap_u64]
          omega
        obtain ⟨c, hc⟩ : ∃ c : Nat, IntKind.i64.wrap ((IntKind.u64.wrap keep).tmod ((A.size + 1 : Nat) : Int)) = (c : Int) ∧ c ≤ A.size := by
          have h6 := Int.emod_nonneg (IntKind.u64.wrap keep) (show ((A.size + 1 : Nat) : Int) ≠ 0 by omega)
          have h7 := Int.emod_lt_of_pos (IntKind.u64.wrap keep) (show (0 : Int) < ((A.size + 1 : Nat) : Int) by omega)
          rw [Int.tmod_eq_emod_of_nonneg hm0]
          refine ⟨(IntKind.u64.wrap keep % ((A.size + 1 : Nat) : Int)).toNat, ?_, by omega⟩
          rw [wrapI (by omega) (by omega)]
          omega
        rw [hc.1, if_pos (by omega)]
        have hp : by_ (A.extract 0 ((c : Int)).toNat) ++ (by_ A).drop c = textF 0 (l.map by_) := by
          rw [by_ext_cut, Int.toNat_natCast, List.drop_zero, List.take_append_drop, hbA]
        obtain ⟨j, rest, e, h3, h4, -⟩ := read19 l h2 (by omega) _ _ hp
        rw [e]
        have hjl : (l.take j).length = j := by rw [List.length_take]; omega
        simp only [obS, hjl]
        rw [cdec, if_pos (by omega), if_pos (by omega), Int.toNat_natCast, same45 _ _ (by rw [hjl]; omega)]
        simp only [obS, decide_true, cond_true, cdec]
        rcases h4 with h4 | h4
        · rw [if_pos h4]
        · by_cases h6 : rest = ByteArray.mk #[]
          · rw [if_pos h6]
          · rw [if_neg h6, if_pos (by omega)]
      · rw [if_neg h2]; rfl
end Go.Proofs.YtbpjodikknbcoaaGreatDoor
