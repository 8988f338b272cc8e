/- Books: both readers read the same. -/
import Derived.Test.YtbpjodikknbcoaaGreatDoorM1
import Derived.Lib.IndexBytes
set_option maxRecDepth 100000
set_option linter.unusedVariables false
set_option linter.unusedSimpArgs false
namespace Go.Proofs.YtbpjodikknbcoaaGreatDoor
open Go Go.Pv

/-- Where a letter stands first; the length, if nowhere. -/
def fi (c : UInt8) : List UInt8 → Nat
  | [] => 0
  | x :: r => if x = c then 0 else fi c r + 1
theorem fi_le (c : UInt8) : ∀ l, fi c l ≤ l.length
  | [] => Nat.le_refl _
  | x :: r => by
    have := fi_le c r
    unfold fi
    split
    · exact Nat.zero_le _
    · simp; omega
theorem fi_ne (c : UInt8) : ∀ (l : List UInt8) (j : Nat), j < fi c l → l.getD j 0 ≠ c
  | [], j, h => by simp [fi] at h
  | x :: r, j, h => by
    unfold fi at h
    split at h
    · omega
    · rename_i hx
      cases j with
      | zero => simpa using hx
      | succ j => simpa using fi_ne c r j (by omega)
theorem fi_at (c : UInt8) : ∀ (l : List UInt8), fi c l < l.length → l.getD (fi c l) 0 = c
  | [], h => by simp at h
  | x :: r, h => by
    unfold fi at h ⊢
    split
    · rename_i hx; simpa using hx
    · rename_i hx
      rw [if_neg hx] at h
      simpa using fi_at c r (by simpa using h)
theorem index_fi (c : UInt8) : ∀ (l : List UInt8), Lib.indexByte l c = if fi c l < l.length then (fi c l : Int) else -1
  | [] => by simp [Lib.indexByte]
  | x :: r => by
    have ih := index_fi c r
    unfold Lib.indexByte fi
    by_cases hx : x = c
    · subst hx; simp
    · have h1 : (x == c) = false := beq_eq_false_iff_ne.2 hx
      rw [h1, ih]
      simp only [Bool.false_eq_true, if_false, List.length_cons, hx]
      by_cases h : fi c r < r.length
      · have h2 : fi c r + 1 < r.length + 1 := by omega
        simp only [h, h2, if_true]
        have : ((fi c r : Int) == -1) = false := beq_eq_false_iff_ne.2 (by omega)
        rw [this]
        simp
      · have h2 : ¬ fi c r + 1 < r.length + 1 := by omega
        simp only [h, h2, if_false]
        rfl
theorem cut_fi (l : List UInt8) (c : UInt8) : Lib.cut l [c] = if fi c l < l.length then (l.take (fi c l), l.drop (fi c l + 1), true) else (l, [], false) := by
  unfold Lib.cut
  rw [Lib.index_one, index_fi]
  by_cases h : fi c l < l.length
  · rw [if_pos h, if_pos h, if_pos (by omega)]; simp
  · rw [if_neg h, if_neg h]; rfl

theorem digits_len : ∀ (n : Nat), (Lib.decDigits n).length ≤ n + 1 := by
  intro n
  induction n using Nat.strongRecOn with
  | _ n ih =>
    unfold Lib.decDigits
    split
    · simp
    · rename_i h
      have := ih (n / 10) (by omega)
      simp
      omega
theorem itoa_len {n : Int} (h : 0 ≤ n ∧ n < 1000003) : (Lib.itoa n).length ≤ 1000004 := by
  unfold Lib.itoa
  rw [if_neg (by omega)]
  have := digits_len n.toNat
  omega

/-- The next order of a book. -/
def rdStep (l : List UInt8) (s : Int) : Option (List UInt8 × List UInt8 × Int) :=
  let e := fi 10 l
  let t := l.take e
  let b := fi 32 t
  let o := t.drop (b + 1)
  if e < l.length ∧ b < e ∧ okText o = true ∧ Lib.itoa (sumF s o) = t.take b then some (o, l.drop (e + 1), sumF s o) else none
theorem rdStep_len {l : List UInt8} {s : Int} {o r : List UInt8} {s' : Int} (h : rdStep l s = some (o, r, s')) : r.length < l.length ∧ o.length ≤ l.length := by
  simp only [rdStep] at h
  split at h
  · rename_i hc
    cases h
    have := hc.1
    simp
    omega
  · cases h

theorem mk_by (a : ByteArray) : (⟨(by_ a).toArray⟩ : ByteArray) = a := by_ext rfl
theorem by_mk (l : List UInt8) : by_ ⟨l.toArray⟩ = l := rfl
theorem line66 (s : Int) (o : ByteArray) (ho : o.size ≤ 100000) : implf66 KK s o = some (⟨(Lib.itoa (sumF s (by_ o)) ++ 32 :: by_ o ++ [10]).toArray⟩, sumF s (by_ o)) := by
  have hr := sumF_rng s (by_ o)
  have hl := itoa_len hr
  unfold implf66
  rw [sum46 s o ho]
  show ob (implf85 KK _) _ = _
  unfold implf85
  rw [if_pos ⟨by omega, by omega⟩]
  have e1 : ∀ l : List UInt8, (⟨l.toArray⟩ : ByteArray).size = l.length := fun l => rfl
  have e2 : ∀ a b : ByteArray, (a ++ b).size = a.size + b.size := fun a b => by rw [← by_len, by_app]; simp [by_len]
  have e3 : (ByteArray.mk #[(32 : UInt8)]).size = 1 := rfl
  have e4 : (ByteArray.mk #[(10 : UInt8)]).size = 1 := rfl
  show (if _ then _ else _) = _
  rw [if_pos (by rw [e1, e3]; omega), if_pos (by rw [e2, e1, e3]; omega), if_pos (by rw [e2, e2, e1, e3, e4]; omega)]
  congr 2
  apply by_ext
  rw [by_app, by_app, by_app]
  simp [by_]

theorem cut64 (x : ByteArray) (c : UInt8) (hx : x.size ≤ 100000) : implf64 KK x (ByteArray.mk #[c]) =
    some (⟨((by_ x).take (fi c (by_ x))).toArray⟩, ⟨((by_ x).drop (fi c (by_ x) + 1)).toArray⟩, decide (fi c (by_ x) < (by_ x).length)) := by
  unfold implf64
  rw [if_pos (by omega)]
  show some (_, _, (Lib.cut (by_ x) [c]).2.2) = _
  have e : (ByteArray.mk #[c]).data.toList = [c] := rfl
  rw [e, cut_fi]
  have hle := fi_le c (by_ x)
  by_cases h : fi c (by_ x) < (by_ x).length
  · rw [if_pos h, decide_eq_true h]
  · rw [if_neg h, decide_eq_false h, List.take_of_length_le (by omega), List.drop_of_length_le (by omega)]

theorem size_mk (l : List UInt8) : (⟨l.toArray⟩ : ByteArray).size = l.length := rfl
theorem size_app (a b : ByteArray) : (a ++ b).size = a.size + b.size := by rw [← by_len, by_app]; simp [by_len]

/-- What a reader does in a round. -/
noncomputable def rdB (rc : ByteArray → List ByteArray → Int → Option (ByteArray × List ByteArray × Int × Unit)) (x : ByteArray) (acc : List ByteArray) (s : Int) : Option (ByteArray × List ByteArray × Int × Unit) :=
  if acc.length < 100 then (match rdStep (by_ x) s with
    | none => some (x, acc, s, ())
    | some (o, r, s') => rc ⟨r.toArray⟩ (acc ++ [⟨o.toArray⟩]) s') else some (x, acc, s, ())

theorem step19 (rc : ByteArray → List ByteArray → Int → Option (ByteArray × List ByteArray × Int × Unit)) (x : ByteArray) (acc : List ByteArray) (s : Int) (hx : x.size ≤ 100000) :
    implb19_0 KK rc x acc s = rdB rc x acc s := by
  unfold implb19_0 rdB
  rw [cdec]
  by_cases ha : acc.length < 100
  · rw [if_pos (by omega), if_pos ha, cut64 x 10 hx]
    obtain ⟨l, hl⟩ : ∃ l, l = by_ x := ⟨_, rfl⟩
    have hll : l.length = x.size := by rw [hl]; rfl
    rw [← hl]
    obtain ⟨e, he⟩ : ∃ e, e = fi 10 l := ⟨_, rfl⟩
    have hel : e ≤ l.length := by rw [he]; exact fi_le _ _
    rw [← he]
    have htl : (l.take e).length = e := by rw [List.length_take]; omega
    show ob (implf64 KK ⟨(l.take e).toArray⟩ (ByteArray.mk #[32])) _ = _
    rw [cut64 ⟨(l.take e).toArray⟩ 32 (by rw [size_mk, htl]; omega), by_mk]
    obtain ⟨t, ht⟩ : ∃ t, t = l.take e := ⟨_, rfl⟩
    rw [← ht] at htl ⊢
    obtain ⟨b, hb⟩ : ∃ b, b = fi 32 t := ⟨_, rfl⟩
    rw [← hb]
    have hbl : b ≤ e := by rw [hb, ← htl]; exact fi_le _ _
    have hrd : rdStep l s = if e < l.length ∧ b < e ∧ okText (t.drop (b + 1)) = true ∧ Lib.itoa (sumF s (t.drop (b + 1))) = t.take b then some (t.drop (b + 1), l.drop (e + 1), sumF s (t.drop (b + 1))) else none := by
      simp only [rdStep, ← he, ← ht, ← hb]
    rw [hrd]
    show (bif !decide (e < l.length) then _ else _) = _
    rw [cnot, cdec]
    by_cases h1 : e < l.length
    · rw [if_pos h1]
      show (bif !decide (b < t.length) then _ else _) = _
      rw [cnot, cdec, htl]
      by_cases h2 : b < e
      · rw [if_pos h2]
        show ob (implf65 KK ⟨(t.drop (b + 1)).toArray⟩) _ = _
        rw [text65, by_mk]
        cases h3 : okText (t.drop (b + 1)) with
        | false => simp [ob]
        | true =>
          have hol : (t.drop (b + 1)).length ≤ 100000 := by rw [List.length_drop]; omega
          show ob (implf66 KK s ⟨(t.drop (b + 1)).toArray⟩) _ = _
          rw [line66 s _ (by rw [size_mk]; exact hol), by_mk]
          show (if (⟨t.toArray⟩ : ByteArray).size + (ByteArray.mk #[(10 : UInt8)]).size ≤ 140737488355328 then _ else none) = _
          have e10 : (ByteArray.mk #[(10 : UInt8)]).size = 1 := rfl
          rw [if_pos (by rw [size_mk, e10]; omega), beqB]
          have htd : t = t.take b ++ 32 :: t.drop (b + 1) := by
            have hg := fi_at 32 t (by rw [← hb, htl]; exact h2)
            rw [← hb] at hg
            have := drop_getD (w := t) (j := b) 0 (by rw [htl]; exact h2)
            rw [hg] at this
            rw [← this, List.take_append_drop]
          have hiff : (⟨(Lib.itoa (sumF s (t.drop (b + 1))) ++ 32 :: t.drop (b + 1) ++ [10]).toArray⟩ : ByteArray) = ⟨t.toArray⟩ ++ ByteArray.mk #[10] ↔ Lib.itoa (sumF s (t.drop (b + 1))) = t.take b := by
            constructor
            · intro h
              have h := congrArg by_ h
              rw [by_app, by_mk, by_mk] at h
              have h : Lib.itoa (sumF s (t.drop (b + 1))) ++ 32 :: t.drop (b + 1) ++ [10] = t ++ [10] := h
              have h := List.append_cancel_right h
              conv at h => rhs; rw [htd]
              exact List.append_cancel_right h
            · intro h
              apply by_ext
              rw [by_app, by_mk, by_mk, h, ← htd]
          rw [cnot, cdec]
          by_cases h4 : Lib.itoa (sumF s (t.drop (b + 1))) = t.take b
          · rw [if_pos (hiff.2 h4)]
            have hsz : (⟨(Lib.itoa (sumF s (t.drop (b + 1))) ++ 32 :: t.drop (b + 1) ++ [10]).toArray⟩ : ByteArray).size = e + 1 := by
              rw [hiff.2 h4, size_app, size_mk, e10, htl]
            have hlen1 : ((List.replicate 1 ByteArray.empty).set 0 (⟨(t.drop (b + 1)).toArray⟩ : ByteArray)).length = 1 := rfl
            rw [if_pos (show (acc.length + ((List.replicate 1 ByteArray.empty).set 0 (⟨(t.drop (b + 1)).toArray⟩ : ByteArray)).length) * 16 ≤ 140737488355328 by rw [hlen1]; omega)]
            rw [hsz, if_pos (show (0 : Int) ≤ ((e + 1 : Nat) : Int) ∧ ((e + 1 : Nat) : Int) ≤ (x.size : Int) ∧ (x.size : Int) ≤ (x.size : Int) by omega)]
            rw [if_pos ⟨h1, h2, rfl, h4⟩]
            have hr : x.extract (((e + 1 : Nat) : Int)).toNat ((x.size : Int)).toNat = ⟨(l.drop (e + 1)).toArray⟩ := by
              apply by_ext
              rw [by_ext_cut, by_mk (l.drop (e + 1)), ← hl, Int.toNat_natCast, Int.toNat_natCast, List.take_of_length_le (by omega)]
            rw [hr]
            rfl
          · rw [if_neg (fun h => h4 (hiff.1 h)), if_neg (fun h => h4 h.2.2.2)]
      · rw [if_neg h2, if_neg (fun h => h2 h.2.1)]
    · rw [if_neg h1, if_neg (fun h => h1 h.1)]
  · rw [if_neg (by omega), if_neg ha]

theorem loop44_2 (x : ByteArray) (acc : List ByteArray) (s b : Int) (hx : x.size ≤ 100000) : impll44_2 KK KK x acc s b 0 = some ((fi 10 (by_ x) : Int), ()) := by
  have hle : fi 10 (by_ x) ≤ x.size := fi_le _ _
  have key := upto (fun k (p : Nat) => impll44_2 KK k x acc s b (p : Int)) (fun j => j) (fi 10 (by_ x)) ((fi 10 (by_ x) : Int), ())
    (fun k j hj => by
      show implb44_2 KK (impll44_2 KK k) x acc s b _ = _
      unfold implb44_2
      have hne : bt x (j : Int) ≠ 10 := by
        rw [bt_at (by omega)]; intro e; apply fi_ne 10 (by_ x) j hj
        have e : ((by_ x).getD j 0).toNat = 10 := by omega
        exact UInt8.toNat.inj e
      rw [cdec, if_pos (by omega), if_pos (by omega), ibne, cnot, decide_eq_false hne, wrapS (by omega)]
      rfl)
    (fun k => by
      show implb44_2 KK (impll44_2 KK k) x acc s b _ = _
      unfold implb44_2
      by_cases h : fi 10 (by_ x) < x.size
      · have he : bt x (fi 10 (by_ x) : Int) = 10 := by rw [bt_at h, fi_at 10 (by_ x) h]; rfl
        rw [cdec, if_pos (by omega), if_pos (by omega), ibne, cnot, decide_eq_true he]
        rfl
      · rw [cdec, if_neg (by omega)])
  exact key KK 0 (by show _ - 0 < 1000000; omega) (Nat.zero_le _)
theorem fi_take (c : UInt8) : ∀ (l : List UInt8) (e j : Nat), j < fi c (l.take e) → l.getD j 0 ≠ c := by
  intro l e j hj
  have h1 := fi_ne c (l.take e) j hj
  have h2 := fi_le c (l.take e)
  have h3 : j < e := by rw [List.length_take] at h2; omega
  rw [List.getD_eq_getElem?_getD, List.getElem?_take_of_lt h3, ← List.getD_eq_getElem?_getD] at h1
  exact h1
theorem loop44_4 (x : ByteArray) (acc : List ByteArray) (s : Int) (e : Nat) (he : e ≤ x.size) (hx : x.size ≤ 100000) : impll44_4 KK KK x acc s 0 (e : Int) = some ((fi 32 ((by_ x).take e) : Int), ()) := by
  have hle : fi 32 ((by_ x).take e) ≤ e := Nat.le_trans (fi_le _ _) (by rw [List.length_take]; omega)
  have key := upto (fun k (p : Nat) => impll44_4 KK k x acc s (p : Int) (e : Int)) (fun j => j) (fi 32 ((by_ x).take e)) ((fi 32 ((by_ x).take e) : Int), ())
    (fun k j hj => by
      show implb44_4 KK (impll44_4 KK k) x acc s _ _ = _
      unfold implb44_4
      have hne : bt x (j : Int) ≠ 32 := by
        rw [bt_at (by omega)]; intro e1; apply fi_take 32 (by_ x) e j hj
        have e1 : ((by_ x).getD j 0).toNat = 32 := by omega
        exact UInt8.toNat.inj e1
      rw [cdec, if_pos (by omega), if_pos (by omega), ibne, cnot, decide_eq_false hne, wrapS (by omega)]
      rfl)
    (fun k => by
      show implb44_4 KK (impll44_4 KK k) x acc s _ _ = _
      unfold implb44_4
      by_cases h : fi 32 ((by_ x).take e) < e
      · have h1 : bt x (fi 32 ((by_ x).take e) : Int) = 32 := by
          rw [bt_at (by omega)]
          have := fi_at 32 ((by_ x).take e) (by rw [List.length_take, by_len]; omega)
          rw [List.getD_eq_getElem?_getD, List.getElem?_take_of_lt h, ← List.getD_eq_getElem?_getD] at this
          rw [this]; rfl
        rw [cdec, if_pos (by omega), if_pos (by omega), ibne, cnot, decide_eq_true h1]
        rfl
      · rw [cdec, if_neg (by omega)])
  exact key KK 0 (by show _ - 0 < 1000000; omega) (Nat.zero_le _)

theorem step44 (rc : ByteArray → List ByteArray → Int → Option (ByteArray × List ByteArray × Int × Unit)) (x : ByteArray) (acc : List ByteArray) (s : Int) (hx : x.size ≤ 100000) :
    implb44_0 KK rc x acc s = rdB rc x acc s := by
  unfold implb44_0 rdB
  rw [cdec]
  by_cases ha : acc.length < 100
  · rw [if_pos (by omega), if_pos ha, loop44_2 x acc s 0 hx]
    obtain ⟨l, hl⟩ : ∃ l, l = by_ x := ⟨_, rfl⟩
    have hll : l.length = x.size := by rw [hl]; rfl
    rw [← hl]
    obtain ⟨e, he⟩ : ∃ e, e = fi 10 l := ⟨_, rfl⟩
    have hel : e ≤ l.length := by rw [he]; exact fi_le _ _
    rw [← he]
    have htl : (l.take e).length = e := by rw [List.length_take]; omega
    show ob (impll44_4 KK KK x acc s 0 (e : Int)) _ = _
    rw [loop44_4 x acc s e (by omega) hx, ← hl]
    obtain ⟨t, ht⟩ : ∃ t, t = l.take e := ⟨_, rfl⟩
    rw [← ht] at htl ⊢
    obtain ⟨b, hb⟩ : ∃ b, b = fi 32 t := ⟨_, rfl⟩
    rw [← hb]
    have hbl : b ≤ e := by rw [hb, ← htl]; exact fi_le _ _
    have hrd : rdStep l s = if e < l.length ∧ b < e ∧ okText (t.drop (b + 1)) = true ∧ Lib.itoa (sumF s (t.drop (b + 1))) = t.take b then some (t.drop (b + 1), l.drop (e + 1), sumF s (t.drop (b + 1))) else none := by
      simp only [rdStep, ← he, ← ht, ← hb]
    rw [hrd]
    show (bif (e : Int) == (x.size : Int) then _ else _) = _
    rw [ibeq, cdec]
    by_cases h1 : e < l.length
    · rw [if_neg (by omega)]
      show (bif (b : Int) == (e : Int) then _ else _) = _
      rw [ibeq, cdec]
      by_cases h2 : b < e
      · rw [if_neg (by omega)]
        show (if (0 : Int) ≤ IntKind.i64.wrap ((b : Int) + 1) ∧ IntKind.i64.wrap ((b : Int) + 1) ≤ (e : Int) ∧ (e : Int) ≤ (x.size : Int) then _ else none) = _
        rw [wrapS (show b ≤ 1000000000 by omega), if_pos (by omega)]
        have hord : x.extract (((b + 1 : Nat) : Int)).toNat ((e : Int)).toNat = ⟨(t.drop (b + 1)).toArray⟩ := by
          apply by_ext
          rw [by_ext_cut, by_mk (t.drop (b + 1)), ← hl, Int.toNat_natCast, Int.toNat_natCast, ← ht]
        have hol : (t.drop (b + 1)).length ≤ 100000 := by rw [List.length_drop]; omega
        rw [hord, text84 _ (by rw [size_mk]; exact hol), by_mk (t.drop (b + 1))]
        cases h3 : okText (t.drop (b + 1)) with
        | false => simp [ob]
        | true =>
          show (if (0 : Int) ≤ ((b + 1 : Nat) : Int) ∧ ((b + 1 : Nat) : Int) ≤ (e : Int) ∧ (e : Int) ≤ (x.size : Int) then _ else none) = _
          rw [if_pos (by omega), sum47 s _ (by rw [size_mk]; exact hol), by_mk (t.drop (b + 1))]
          have hr := sumF_rng s (t.drop (b + 1))
          show ob (implf85 KK (sumF s (t.drop (b + 1)))) _ = _
          unfold implf85
          rw [if_pos ⟨by omega, by omega⟩]
          show (if (0 : Int) ≤ (0 : Int) ∧ (0 : Int) ≤ (b : Int) ∧ (b : Int) ≤ (x.size : Int) then _ else none) = _
          rw [if_pos (by omega), beqB]
          have hiff : (⟨(Lib.itoa (sumF s (t.drop (b + 1)))).toArray⟩ : ByteArray) = x.extract 0 ((b : Int)).toNat ↔ Lib.itoa (sumF s (t.drop (b + 1))) = t.take b := by
            have h0 : by_ (x.extract 0 ((b : Int)).toNat) = t.take b := by
              rw [by_ext_cut, ← hl, Int.toNat_natCast, List.drop_zero, ht, List.take_take, Nat.min_eq_left hbl]
            constructor
            · intro h
              have h := congrArg by_ h
              rw [h0] at h
              exact h
            · intro h
              apply by_ext
              rw [h0]
              exact h
          rw [cnot, cdec]
          by_cases h4 : Lib.itoa (sumF s (t.drop (b + 1))) = t.take b
          · rw [if_pos (hiff.2 h4)]
            have hlen1 : ((List.replicate 1 ByteArray.empty).set 0 (⟨(t.drop (b + 1)).toArray⟩ : ByteArray)).length = 1 := rfl
            rw [if_pos ⟨h1, h2, rfl, h4⟩]
            show (if (acc.length + ((List.replicate 1 ByteArray.empty).set 0 (⟨(t.drop (b + 1)).toArray⟩ : ByteArray)).length) * 16 ≤ 140737488355328 then _ else none) = _
            rw [if_pos (show (acc.length + ((List.replicate 1 ByteArray.empty).set 0 (⟨(t.drop (b + 1)).toArray⟩ : ByteArray)).length) * 16 ≤ 140737488355328 by rw [hlen1]; omega)]
            rw [wrapS (show e ≤ 1000000000 by omega), if_pos (show (0 : Int) ≤ ((e + 1 : Nat) : Int) ∧ ((e + 1 : Nat) : Int) ≤ (x.size : Int) ∧ (x.size : Int) ≤ (x.size : Int) by omega)]
            have hr : x.extract (((e + 1 : Nat) : Int)).toNat ((x.size : Int)).toNat = ⟨(l.drop (e + 1)).toArray⟩ := by
              apply by_ext
              rw [by_ext_cut, by_mk (l.drop (e + 1)), ← hl, Int.toNat_natCast, Int.toNat_natCast, List.take_of_length_le (by omega)]
            rw [hr]
            rfl
          · rw [if_neg (fun h => h4 (hiff.1 h)), if_neg (fun h => h4 h.2.2.2)]
      · rw [if_pos (by omega), if_neg (fun h => h2 h.2.1)]
    · rw [if_pos (by omega), if_neg (fun h => h1 h.1)]
  · rw [if_neg (by omega), if_neg ha]
end Go.Proofs.YtbpjodikknbcoaaGreatDoor
