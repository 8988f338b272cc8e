/- Books written: both writers write the same; what is written is read again. -/
import Derived.Test.YtbpjodikknbcoaaGreatDoorM3
set_option maxRecDepth 100000
set_option linter.unusedVariables false
set_option linter.unusedSimpArgs false
namespace Go.Proofs.YtbpjodikknbcoaaGreatDoor
open Go Go.Pv

theorem same45 (a b : List ByteArray) (ha : a.length ≤ 1000) : implf45 KK a b = some (decide (a = b)) := by
  unfold implf45
  rw [ibne, cnot, cdec]
  by_cases hl : (a.length : Int) = b.length
  · rw [if_pos hl]
    have hl' : a.length = b.length := by omega
    have key := uptoAll (fun k (p : Nat) => impll45_0 KK k a b (p : Int)) (fun j => j) a.length (fun j => a.getD j ByteArray.empty = b.getD j ByteArray.empty) (Sum.inl ((a.length : Int), ())) (Sum.inr false)
      (fun k j hj hp => by
        show implb45_0 KK (impll45_0 KK k) a b _ = _
        unfold implb45_0
        have e : a.getD ((j : Int)).toNat ByteArray.empty = b.getD ((j : Int)).toNat ByteArray.empty := by rw [Int.toNat_natCast]; exact hp
        rw [cdec, if_pos (by omega), if_pos (by omega), if_pos (by omega), beqB, cnot, cdec, if_pos e, wrapS (by omega)])
      (fun k j hj hp => by
        show implb45_0 KK (impll45_0 KK k) a b _ = _
        unfold implb45_0
        have e : ¬ a.getD ((j : Int)).toNat ByteArray.empty = b.getD ((j : Int)).toNat ByteArray.empty := by rw [Int.toNat_natCast]; exact hp
        rw [cdec, if_pos (by omega), if_pos (by omega), if_pos (by omega), beqB, cnot, cdec, if_neg e])
      (fun k => by
        show implb45_0 KK (impll45_0 KK k) a b _ = _
        unfold implb45_0
        rw [cdec, if_neg (by omega)])
    have key := key KK 0 (by show a.length - 0 < 1000000; omega) (Nat.zero_le _)
    have hall : (∀ i, 0 ≤ i → i < a.length → a.getD i ByteArray.empty = b.getD i ByteArray.empty) ↔ a = b := by
      constructor
      · intro h
        apply List.ext_getElem hl'
        intro i h1 h2
        have := h i (Nat.zero_le _) h1
        simpa [List.getD_eq_getElem?_getD, List.getElem?_eq_getElem h1, List.getElem?_eq_getElem h2] using this
      · rintro rfl i _ _; rfl
    by_cases hab : a = b
    · rw [if_pos (hall.2 hab)] at key
      have key : impll45_0 KK KK a b 0 = _ := key
      rw [key, decide_eq_true hab]; rfl
    · rw [if_neg (fun h => hab (hall.1 h))] at key
      have key : impll45_0 KK KK a b 0 = _ := key
      rw [key, decide_eq_false hab]; rfl
  · rw [if_neg hl, decide_eq_false (fun h => hl (by rw [h]))]

/-- One line of a book. -/
def lineF (s : Int) (o : List UInt8) : List UInt8 := Lib.itoa (sumF s o) ++ 32 :: o ++ [10]
/-- The text of orders. -/
def textF : Int → List (List UInt8) → List UInt8
  | _, [] => []
  | s, o :: r => lineF s o ++ textF (sumF s o) r

theorem digit_rng : ∀ (n : Nat) (c : UInt8), c ∈ Lib.decDigits n → 48 ≤ c.toNat ∧ c.toNat ≤ 57 := by
  intro n
  induction n using Nat.strongRecOn with
  | _ n ih =>
    intro c hc
    unfold Lib.decDigits at hc
    split at hc
    · rename_i h
      simp only [List.mem_singleton] at hc
      subst hc
      rw [UInt8.toNat_ofNat']
      omega
    · rename_i h
      rw [List.mem_append] at hc
      rcases hc with hc | hc
      · exact ih (n / 10) (by omega) c hc
      · simp only [List.mem_singleton] at hc
        subst hc
        rw [UInt8.toNat_ofNat']
        omega
theorem itoa_rng {n : Int} (h : 0 ≤ n) (c : UInt8) (hc : c ∈ Lib.itoa n) : 48 ≤ c.toNat ∧ c.toNat ≤ 57 := by
  unfold Lib.itoa at hc
  rw [if_neg (by omega)] at hc
  exact digit_rng _ _ hc
theorem fi_app (c : UInt8) : ∀ (a b : List UInt8), (∀ x ∈ a, x ≠ c) → fi c (a ++ c :: b) = a.length
  | [], b, _ => by simp [fi]
  | x :: a, b, h => by
    show fi c (x :: (a ++ c :: b)) = _
    unfold fi
    rw [if_neg (h x (by simp)), fi_app c a b (fun y hy => h y (by simp [hy]))]
    rfl
theorem fi_none (c : UInt8) : ∀ (a : List UInt8), (∀ x ∈ a, x ≠ c) → fi c a = a.length
  | [], _ => rfl
  | x :: a, h => by
    unfold fi
    rw [if_neg (h x (by simp)), fi_none c a (fun y hy => h y (by simp [hy]))]
    rfl
theorem ok_no10 {o : List UInt8} (h : okText o = true) : ∀ x ∈ o, x ≠ 10 := by
  intro x hx e
  subst e
  unfold okText at h
  have : o.contains 10 = true := List.contains_iff_mem.2 hx
  rw [this] at h
  simp at h
theorem head_no10 {s : Int} {o : List UInt8} (h : okText o = true) : ∀ x ∈ Lib.itoa (sumF s o) ++ 32 :: o, x ≠ 10 := by
  intro x hx e
  subst e
  rw [List.mem_append, List.mem_cons] at hx
  rcases hx with hx | hx | hx
  · have := itoa_rng (sumF_rng s o).1 _ hx
    revert this; decide
  · revert hx; decide
  · exact ok_no10 h _ hx rfl

/-- A line that stands whole at the head is read. -/
theorem rd_line {s : Int} {o r : List UInt8} (h : okText o = true) : rdStep (lineF s o ++ r) s = some (o, r, sumF s o) := by
  have e0 : lineF s o ++ r = (Lib.itoa (sumF s o) ++ 32 :: o) ++ 10 :: r := by simp [lineF]
  have h1 : fi 10 (lineF s o ++ r) = (Lib.itoa (sumF s o) ++ 32 :: o).length := by rw [e0]; exact fi_app 10 _ _ (head_no10 h)
  have h2 : (lineF s o ++ r).take (fi 10 (lineF s o ++ r)) = Lib.itoa (sumF s o) ++ 32 :: o := by rw [h1, e0]; exact List.take_left' rfl
  have h3 : fi 32 (Lib.itoa (sumF s o) ++ 32 :: o) = (Lib.itoa (sumF s o)).length := fi_app 32 _ _ (by
    intro x hx e
    subst e
    have := itoa_rng (sumF_rng s o).1 _ hx
    revert this; decide)
  have h4 : (Lib.itoa (sumF s o) ++ 32 :: o).drop ((Lib.itoa (sumF s o)).length + 1) = o := by
    rw [List.drop_append]; simp
  have h5 : (lineF s o ++ r).drop ((Lib.itoa (sumF s o) ++ 32 :: o).length + 1) = r := by
    rw [e0, List.drop_append]; simp
  simp only [rdStep, h2, h3, h4]
  rw [h1, h5, if_pos]
  refine ⟨?_, ?_, h, ?_⟩
  · rw [e0]; simp
  · simp
  · simp
/-- A piece of a line that misses its end is not read. -/
theorem rd_torn {s : Int} {o p q : List UInt8} (h : okText o = true) (hp : p ++ q = lineF s o) (hq : q ≠ []) : rdStep p s = none := by
  have hn : ∀ x ∈ p, x ≠ 10 := by
    intro x hx
    have : ∃ q', q = q' ++ [10] ∧ p ++ q' = Lib.itoa (sumF s o) ++ 32 :: o := by
      rcases List.eq_nil_or_concat q with rfl | ⟨q', c, rfl⟩
      · exact absurd rfl hq
      · have e : (p ++ q') ++ [c] = (Lib.itoa (sumF s o) ++ 32 :: o) ++ [10] := by
          have := hp
          simp only [lineF, List.concat_eq_append] at this
          rw [List.append_assoc]; exact this
        have e1 := List.append_inj_left' e rfl
        have e2 := List.append_inj_right' e rfl
        cases e2
        exact ⟨q', by simp, e1⟩
    obtain ⟨q', -, e⟩ := this
    exact head_no10 h x (by rw [← e]; simp [hx])
  simp only [rdStep, fi_none 10 p hn]
  rw [if_neg (fun h => Nat.lt_irrefl _ h.1)]

abbrev toB (l : List (List UInt8)) : List ByteArray := l.map fun o => ⟨o.toArray⟩
theorem rdL_succ (k : Nat) (x : ByteArray) (acc : List ByteArray) (s : Int) : rdL (k + 1) x acc s = rdB (rdL k) x acc s := rfl

/-- Any beginning of a book is read as a beginning of its orders. -/
theorem read_prefix : ∀ (l : List (List UInt8)) (k : Nat) (p q : List UInt8) (acc : List ByteArray) (s : Int), (∀ o ∈ l, okText o = true) → acc.length + l.length ≤ 100 → 100 < k + acc.length → p ++ q = textF s l →
    ∃ (j : Nat) (rest : List UInt8) (s' : Int), rdL k ⟨p.toArray⟩ acc s = some (⟨rest.toArray⟩, acc ++ toB (l.take j), s', ()) ∧ j ≤ l.length ∧ (rest = [] ∨ j < l.length) ∧ (q = [] → j = l.length ∧ rest = [])
  | l, 0, p, q, acc, s, _, h1, h2, _ => by omega
  | [], k + 1, p, q, acc, s, hl, h1, h2, hp => by
    have hp0 : p = [] := (List.append_eq_nil_iff.1 hp).1
    subst hp0
    refine ⟨0, [], s, ?_, Nat.le_refl _, .inl rfl, fun _ => ⟨rfl, rfl⟩⟩
    rw [rdL_succ]
    unfold rdB
    split
    · have : rdStep (by_ (⟨([] : List UInt8).toArray⟩ : ByteArray)) s = none := by
        rw [by_mk]; simp [rdStep, fi]
      rw [this]; simp
    · simp
  | o :: r, k + 1, p, q, acc, s, hl, h1, h2, hp => by
    have ho : okText o = true := hl o (by simp)
    have hp : p ++ q = lineF s o ++ textF (sumF s o) r := hp
    rw [rdL_succ]
    have ha : acc.length < 100 := by simp at h1; omega
    unfold rdB
    rw [if_pos ha, by_mk p]
    by_cases hlen : (lineF s o).length ≤ p.length
    · obtain ⟨p', rfl⟩ : ∃ p', p = lineF s o ++ p' := by
        refine ⟨p.drop (lineF s o).length, ?_⟩
        have := congrArg (List.take (lineF s o).length) hp
        rw [List.take_append_of_le_length hlen, List.take_left'] at this
        · conv => lhs; rw [← List.take_append_drop (lineF s o).length p]
          rw [this]
        · rfl
      have hp' : p' ++ q = textF (sumF s o) r := by
        rw [List.append_assoc] at hp
        exact List.append_cancel_left hp
      rw [rd_line ho]
      obtain ⟨j, rest, s', e, h3, h4, h5⟩ := read_prefix r k p' q (acc ++ [⟨o.toArray⟩]) (sumF s o) (fun x hx => hl x (by simp [hx])) (by simp at h1 ⊢; omega) (by simp; omega) hp'
      refine ⟨j + 1, rest, s', ?_, by simp; omega, h4.imp id (fun h => by simp; omega), fun hq => ⟨by simp [(h5 hq).1], (h5 hq).2⟩⟩
      show rdL k ⟨p'.toArray⟩ (acc ++ [⟨o.toArray⟩]) (sumF s o) = _
      rw [e]
      simp [toB]
    · have hq : ∃ q', p ++ q' = lineF s o ∧ q' ≠ [] := by
        refine ⟨(lineF s o).drop p.length, ?_, ?_⟩
        · have := congrArg (List.take p.length) hp
          rw [List.take_left' rfl, List.take_append_of_le_length (by omega)] at this
          conv => lhs; lhs; rw [this]
          exact List.take_append_drop _ _
        · intro h
          have := congrArg List.length h
          simp at this
          omega
      obtain ⟨q', e1, e2⟩ := hq
      rw [rd_torn ho e1 e2]
      refine ⟨0, p, s, by simp [toB], Nat.zero_le _, .inr (by simp), fun hq0 => ?_⟩
      subst hq0
      have := congrArg List.length hp
      simp at this
      omega
end Go.Proofs.YtbpjodikknbcoaaGreatDoor
