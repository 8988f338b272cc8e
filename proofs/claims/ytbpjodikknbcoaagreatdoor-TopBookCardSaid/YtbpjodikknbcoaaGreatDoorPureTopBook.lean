/- A book is the orders that were taken. -/
import Derived.Test.YtbpjodikknbcoaaGreatDoorMt5
import Derived.Test.YtbpjodikknbcoaaGreatDoorFTopBook
import Derived.KernelRfl
set_option maxRecDepth 100000
set_option linter.unusedVariables false
set_option linter.unusedSimpArgs false
namespace Go.Proofs.YtbpjodikknbcoaaGreatDoor
open Go Go.Pv
theorem read_lit : implf19 KK (ByteArray.mk #[(56 : UInt8), (51 : UInt8), (49 : UInt8), (57 : UInt8), (49 : UInt8), (55 : UInt8), (32 : UInt8), (102 : UInt8), (111 : UInt8), (103 : UInt8), (10 : UInt8), (56 : UInt8), (51 : UInt8), (49 : UInt8)]) =
    some ([ByteArray.mk #[(102 : UInt8), (111 : UInt8), (103 : UInt8)]], ByteArray.mk #[(56 : UInt8), (51 : UInt8), (49 : UInt8)]) := by kernel_rfl
theorem loop3 (x : FirmT) (m : List ByteArray) (t : ByteArray) (l : List ByteArray) (hl : l.length ≤ m.length) (hn : l.length ≤ 1000) (hs : ∀ i, i < l.length → l.getD i ByteArray.empty = m.getD i ByteArray.empty) : ∀ (d j k : Nat), l.length - j = d → j ≤ l.length → d < k →
    ∃ z, impll3_0 KK k x m t l (j : Int) = some (.inl z)
  | d, j, 0, _, _, h => by omega
  | d, j, k + 1, hd, hj, hk => by
    show ∃ z, implb3_0 KK (impll3_0 KK k) x m t l (j : Int) = some (.inl z)
    unfold implb3_0
    rw [cdec]
    by_cases h : j < l.length
    · rw [if_pos (by omega), if_pos (by omega), if_pos (by omega), Int.toNat_natCast, hs j h, beqB, decide_eq_true rfl, wrapS (by omega)]
      exact loop3 x m t l hl hn hs (d - 1) (j + 1) k (by omega) (by omega) (by omega)
    · rw [if_neg (by omega)]
      exact ⟨_, rfl⟩
theorem loop3_2 (x : FirmT) (m : List ByteArray) (t : ByteArray) (l : List ByteArray) (r : ByteArray) (c : Int) (hl : l.length ≤ m.length) (hn : l.length ≤ 1000) (hs : ∀ i, i < l.length → l.getD i ByteArray.empty = m.getD i ByteArray.empty) : ∀ (d j k : Nat), l.length - j = d → j ≤ l.length → d < k →
    ∃ z, impll3_2 KK k x m t l r c (j : Int) = some (.inl z)
  | d, j, 0, _, _, h => by omega
  | d, j, k + 1, hd, hj, hk => by
    show ∃ z, implb3_2 KK (impll3_2 KK k) x m t l r c (j : Int) = some (.inl z)
    unfold implb3_2
    rw [cdec]
    by_cases h : j < l.length
    · rw [if_pos (by omega), if_pos (by omega), if_pos (by omega), Int.toNat_natCast, hs j h, beqB, decide_eq_true rfl, wrapS (by omega)]
      exact loop3_2 x m t l r c hl hn hs (d - 1) (j + 1) k (by omega) (by omega) (by omega)
    · rw [if_neg (by omega)]
      exact ⟨_, rfl⟩
theorem coreTopBook (x : FirmT) (ho : ∀ o ∈ x.2.2.2.1, o.size ≤ 9223372036854775807) : implf3 KK x = some true := by
  obtain ⟨f1, f2⟩ := firm20 x ho
  unfold implf3
  rw [read_lit]
  have g0 : (([ByteArray.mk #[(102 : UInt8), (111 : UInt8), (103 : UInt8)]] : List ByteArray).getD 0 ByteArray.empty) = ByteArray.mk #[(102 : UInt8), (111 : UInt8), (103 : UInt8)] := rfl
  have g1 : ((([ByteArray.mk #[(102 : UInt8), (111 : UInt8), (103 : UInt8)]] : List ByteArray).length : Int) != 1) = false := rfl
  have g2 : (0 : Int) ≤ 0 ∧ (0 : Int) < (([ByteArray.mk #[(102 : UInt8), (111 : UInt8), (103 : UInt8)]] : List ByteArray).length : Int) := ⟨Int.le_refl 0, by decide⟩
  simp only [obS]
  rw [g1, if_pos g2, g0]
  simp only [beqB, decide_true, Bool.not_true, cond_false]
  by_cases he : errOf (kitOf x) = 0
  · obtain ⟨e1, y, e2, hr⟩ := f2 he
    have K : RKit x.1 x.2.1 x.2.2.1 := kit_of he
    rw [e1, e2]
    simp only [oelN, obS, Bool.not_true, cond_false]
    obtain ⟨h1, h2⟩ := reach_text hr
    have hbs := book_size h1 h2
    rw [book21 0 hr, write_ok h1 h2]
    simp only [obS]
    rw [(read_book h1 h2).1]
    simp only [obS, ibne, decide_true, Bool.not_true, cond_false, beqB]
    obtain ⟨z1, l1⟩ := loop3 x y.orders (bookB y.orders) y.orders (Nat.le_refl _) (by omega) (fun _ _ => rfl) _ 0 KK rfl (Nat.zero_le _) (by show y.orders.length - 0 < 1000000; omega)
    have l1 : impll3_0 KK KK x y.orders (bookB y.orders) y.orders 0 = _ := l1
    rw [l1]
    simp only [obS]
    obtain ⟨u0, c, hc, hcn⟩ := mod_cut (bookB y.orders).size (by omega) x.2.2.2.2
    rw [if_neg u0]
    simp only [hc]
    rw [if_pos (by omega), Int.toNat_natCast]
    obtain ⟨j, rest, e19, hj, hrs, hpre⟩ := book_prefix h1 h2 c hcn
    have htl : (y.orders.take j).length = j := by rw [List.length_take]; omega
    have hl' : ∀ o ∈ y.orders.take j, okText (by_ o) = true := fun o ho => h1 o (List.mem_of_mem_take ho)
    rw [e19]
    obtain ⟨z2, l2⟩ := loop3_2 x y.orders (bookB y.orders) (y.orders.take j) rest (c : Int) (by omega) (by omega) (fun i hi => take_getD' hi) _ 0 KK rfl (Nat.zero_le _) (by show (y.orders.take j).length - 0 < 1000000; omega)
    have l2 : impll3_2 KK KK x y.orders (bookB y.orders) (y.orders.take j) rest (c : Int) 0 = _ := l2
    simp only [obS, cdec, htl]
    rw [if_neg (by omega), if_neg (by omega), l2]
    simp only [obS]
    rw [wrapI (n := (c : Int) - (rest.size : Int)) (by omega) (by omega), if_pos (by omega), show ((c : Int) - (rest.size : Int)).toNat = c - rest.size by omega, hpre, (merge_begin h1 h2 j hj).1, (merge_begin h1 h2 j hj).2]
    simp only [obS, decide_true, Bool.not_true, cond_false]
    rw [if_pos (by omega)]
    by_cases hrest : rest = ByteArray.mk #[]
    · subst hrest
      have hz : c - (ByteArray.mk #[]).size = c := rfl
      rw [hz] at hpre
      obtain ⟨v, hv, hvo, -⟩ := reach_prefix hr j hj
      obtain ⟨b1, b2⟩ := again24 (k := kitOf x) he hv
      rw [hvo, ← hpre] at b1 b2
      have b1 : implf24a KK x.1 x.2.1 x.2.2.1 ((bookB y.orders).extract 0 c) = _ := b1
      have b2 : implf24b KK x.1 x.2.1 x.2.2.1 ((bookB y.orders).extract 0 c) = _ := b2
      rw [b1, b2, htl]
      simp only [oelN, obS, decide_true, if_true, beq_self_eq_true, cond_true, cnot, cond_false]
    · have hrep := (rep24 (k := kitOf x) (small_kit he) e19 hl' (by omega)).1 0 11 (by unfold repF; rw [if_pos he, if_neg hrest])
      have hrep : implf24a KK x.1 x.2.1 x.2.2.1 ((bookB y.orders).extract 0 c) = _ := hrep
      rw [hrep]
      simp only [oelS, decide_eq_false hrest, Bool.not_false, cond_true, beq_self_eq_true]
  · rw [f1 he]
    simp only [oelS, Bool.not_false, cond_true]
theorem pureTopBook (x : (insOf tl [28]).ty.den) (hw : wfAll tl [28] x) : ∃ k, implf3 k x.1 = some true := ⟨KK, coreTopBook x.1 (fun o ho => hw.1.2.2.2.1.2 o ho)⟩
end Go.Proofs.YtbpjodikknbcoaaGreatDoor
