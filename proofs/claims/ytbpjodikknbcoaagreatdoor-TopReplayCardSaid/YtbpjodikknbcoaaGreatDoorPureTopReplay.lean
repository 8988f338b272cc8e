/- A station is what its book says. -/
import Derived.Test.YtbpjodikknbcoaaGreatDoorMt5
import Derived.Test.YtbpjodikknbcoaaGreatDoorFTopReplay
set_option maxRecDepth 100000
set_option linter.unusedVariables false
set_option linter.unusedSimpArgs false
namespace Go.Proofs.YtbpjodikknbcoaaGreatDoor
open Go Go.Pv
theorem loop17 {t w : List Int} {b : Box} (K : RKit t w b) (s0 s1 : Stn) (l : List ByteArray) (hl : ∀ o ∈ l, o.size ≤ 400) (c : Nat) (hc : c ≤ l.length) (hn : l.length ≤ 1000) : ∀ (d j k : Nat) (x y : Sv), c - j = d → j ≤ c → d < k → Reach w b (needF t) x → stepsF w b (needF t) ((l.take c).drop j) x = some y →
    ∃ z, impll17_0 KK k s0 l (c : Int) s1 (stnOf (0, 0) t w b x) (j : Int) = some (.inl (stnOf (0, 0) t w b y, z))
  | d, j, 0, _, _, _, _, h, _, _ => by omega
  | d, j, k + 1, x, y, hd, hj, hk, hx, hs => by
    show ∃ z, implb17_0 KK (impll17_0 KK k) s0 l (c : Int) s1 (stnOf (0, 0) t w b x) (j : Int) = some (.inl (stnOf (0, 0) t w b y, z))
    unfold implb17_0
    rw [cdec]
    have htl : (l.take c).length = c := by rw [List.length_take]; omega
    by_cases h : j < c
    · have ho := hl _ (getD_mem ByteArray.empty (show j < l.length by omega))
      rw [drop_getD ByteArray.empty (show j < (l.take c).length by omega), take_getD' (by omega)] at hs
      have hs : (if (doF w b (needF t) (l.getD j ByteArray.empty) x).1 = 0 then stepsF w b (needF t) ((l.take c).drop (j + 1)) (doF w b (needF t) (l.getD j ByteArray.empty) x).2 else none) = some y := hs
      rw [if_pos (by omega), if_pos (by omega), Int.toNat_natCast, do31 K 0 hx _ (by omega)]
      simp only [obS]
      by_cases e : (doF w b (needF t) (l.getD j ByteArray.empty) x).1 = 0
      · rw [if_pos e] at hs
        rw [ibne, decide_eq_true e, wrapS (by omega)]
        exact loop17 K s0 s1 l hl c hc hn (d - 1) (j + 1) k _ y (by omega) (by omega) (by omega) (reach_do hx _) hs
      · rw [if_neg e] at hs; cases hs
    · rw [if_neg (by omega)]
      rw [List.drop_of_length_le (by omega)] at hs
      cases hs
      exact ⟨_, rfl⟩
theorem loop17_2 {t w : List Int} {b : Box} (K : RKit t w b) (s0 : Stn) (l : List ByteArray) (hl : ∀ o ∈ l, o.size ≤ 400) (hn : l.length ≤ 1000) : ∀ (d j k : Nat) (x y : Sv), l.length - j = d → j ≤ l.length → d < k → Reach w b (needF t) x → stepsF w b (needF t) (l.drop j) x = some y →
    ∃ z, impll17_2 KK k s0 l (stnOf (0, 0) t w b x) (j : Int) = some (.inl (stnOf (0, 0) t w b y, z))
  | d, j, 0, _, _, _, _, h, _, _ => by omega
  | d, j, k + 1, x, y, hd, hj, hk, hx, hs => by
    show ∃ z, implb17_2 KK (impll17_2 KK k) s0 l (stnOf (0, 0) t w b x) (j : Int) = some (.inl (stnOf (0, 0) t w b y, z))
    unfold implb17_2
    rw [cdec]
    by_cases h : j < l.length
    · have ho := hl _ (getD_mem ByteArray.empty h)
      rw [drop_getD ByteArray.empty h] at hs
      have hs : (if (doF w b (needF t) (l.getD j ByteArray.empty) x).1 = 0 then stepsF w b (needF t) (l.drop (j + 1)) (doF w b (needF t) (l.getD j ByteArray.empty) x).2 else none) = some y := hs
      rw [if_pos (by omega), if_pos (by omega), Int.toNat_natCast, do31 K 0 hx _ (by omega)]
      simp only [obS]
      by_cases e : (doF w b (needF t) (l.getD j ByteArray.empty) x).1 = 0
      · rw [if_pos e] at hs
        rw [ibne, decide_eq_true e, wrapS (by omega)]
        exact loop17_2 K s0 l hl hn (d - 1) (j + 1) k _ y (by omega) (by omega) (by omega) (reach_do hx _) hs
      · rw [if_neg e] at hs; cases hs
    · rw [if_neg (by omega)]
      rw [List.drop_of_length_le (by omega)] at hs
      cases hs
      exact ⟨_, rfl⟩
theorem sum_fog : implf46 KK 0 (ByteArray.mk #[(102 : UInt8), (111 : UInt8), (103 : UInt8)]) = some 831917 := by
  rw [sum46 _ _ (by decide)]; rfl
theorem coreTopReplay (x : FirmT) (ho : ∀ o ∈ x.2.2.2.1, o.size ≤ 9223372036854775807) : implf17 KK x = some true := by
  obtain ⟨f1, f2⟩ := firm20 x ho
  unfold implf17
  rw [sum_fog]
  simp only [obS, ibne, decide_true, Bool.not_true, cond_false]
  by_cases he : errOf (kitOf x) = 0
  · obtain ⟨e1, y, e2, hr⟩ := f2 he
    have K : RKit x.1 x.2.1 x.2.2.1 := kit_of he
    rw [e1, e2]
    simp only [oelN, obS, Bool.not_true, cond_false]
    obtain ⟨h1, h2⟩ := reach_text hr
    obtain ⟨a1, a2⟩ := again24 (k := kitOf x) he hr
    have a1 : implf24a KK x.1 x.2.1 x.2.2.1 (bookB y.orders) = _ := a1
    have a2 : implf24b KK x.1 x.2.1 x.2.2.1 (bookB y.orders) = some (stnOf (0, 0) x.1 x.2.1 x.2.2.1 y, _, 0) := a2
    have hau : implf55a KK (stnOf (0, 0) x.1 x.2.1 x.2.2.1 y) = some true := audit55 (k := kitOf x) (small_kit he) he hr
    rw [book21 0 hr]
    simp only [obS]
    rw [a1, a2]
    simp only [oelN, obS, decide_true, Bool.not_true, cond_false]
    rw [same63 hr, hau]
    simp only [obS, Bool.not_true, cond_false]
    obtain ⟨u0, c, hc, hcn⟩ := mod_cut y.orders.length (by omega) x.2.2.2.2
    rw [if_neg u0]
    simp only [hc]
    rw [if_pos (by omega), Int.toNat_natCast]
    obtain ⟨v, hv, hvo, hvs⟩ := reach_prefix hr c hcn
    obtain ⟨g1, g2⟩ := reach_text hv
    rw [← hvo, write_ok g1 g2]
    obtain ⟨b1, b2⟩ := again24 (k := kitOf x) he hv
    have b1 : implf24a KK x.1 x.2.1 x.2.2.1 (bookB v.orders) = _ := b1
    have b2 : implf24b KK x.1 x.2.1 x.2.2.1 (bookB v.orders) = some (stnOf (0, 0) x.1 x.2.1 x.2.2.1 v, _, 0) := b2
    have ga : implf50a KK x.1 x.2.1 x.2.2.1 = if errOf (kitOf x) = 0 then none else some ((), errOf (kitOf x)) := g50a (kitOf x)
    have gb : implf50b KK x.1 x.2.1 x.2.2.1 = if errOf (kitOf x) = 0 then some (stnOf (0, 0) x.1 x.2.1 x.2.2.1 zeroS, 0) else none := s50b (small_kit he)
    simp only [obS]
    rw [b1, b2, ga, gb, if_pos he, if_pos he]
    have hlen : (v.orders.length : Int) = (c : Int) := by rw [hvo, List.length_take]; omega
    simp only [oelN, obS, decide_true, Bool.not_true, cond_false, hlen]
    have hsz : ∀ o ∈ y.orders, o.size ≤ 400 := fun o ho => by have := text_size (h1 o ho); omega
    have hsv : stepsF x.2.1 x.2.2.1 (needF x.1) ((y.orders.take c).drop 0) zeroS = some v := by
      rw [List.drop_zero, ← hvo]; exact hv
    obtain ⟨z1, l1⟩ := loop17 K (stnOf (0, 0) x.1 x.2.1 x.2.2.1 y) (stnOf (0, 0) x.1 x.2.1 x.2.2.1 v) y.orders hsz c hcn (by omega) _ 0 KK zeroS v rfl (Nat.zero_le _) (by show c - 0 < 1000000; omega) (reach_zero _ _ _) hsv
    have l1 : impll17_0 KK KK (stnOf (0, 0) x.1 x.2.1 x.2.2.1 y) y.orders (c : Int) (stnOf (0, 0) x.1 x.2.1 x.2.2.1 v) (stnOf (0, 0) x.1 x.2.1 x.2.2.1 zeroS) 0 = _ := l1
    obtain ⟨z2, l2⟩ := loop17_2 K (stnOf (0, 0) x.1 x.2.1 x.2.2.1 y) y.orders hsz (by omega) _ c KK v y rfl hcn (by show y.orders.length - c < 1000000; omega) hv hvs
    rw [l1]
    simp only [obS]
    rw [same63 hv]
    simp only [obS, Bool.not_true, cond_false]
    rw [l2]
    simp only [obS]
    rw [same63 hr]
    rfl
  · rw [f1 he]
    simp only [oelS, Bool.not_false, cond_true]
theorem pureTopReplay (x : (insOf tl [28]).ty.den) (hw : wfAll tl [28] x) : ∃ k, implf17 k x.1 = some true := ⟨KK, coreTopReplay x.1 (fun o ho => hw.1.2.2.2.1.2 o ho)⟩
end Go.Proofs.YtbpjodikknbcoaaGreatDoor
