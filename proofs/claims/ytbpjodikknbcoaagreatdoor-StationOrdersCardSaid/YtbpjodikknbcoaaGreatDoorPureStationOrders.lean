/- Orders, one after another: the program's station and the document's answer alike. -/
import Derived.Test.YtbpjodikknbcoaaGreatDoorMd5
import Derived.Test.YtbpjodikknbcoaaGreatDoorFStationOrders
set_option maxRecDepth 100000
set_option linter.unusedVariables false
set_option linter.unusedSimpArgs false
namespace Go.Proofs.YtbpjodikknbcoaaGreatDoor
open Go Go.Pv
theorem loop6 {t w : List Int} {b : Box} (K : RKit t w b) (l : List ByteArray) (hl : ∀ o ∈ l, o.size ≤ 400) (hn : l.length ≤ 1000) : ∀ (d j k : Nat) (x : Sv), l.length - j = d → j ≤ l.length → d < k → Reach w b (needF t) x →
    ∃ y, impll6_0 KK k l (stnOf (0, 0) t w b x) (refOf w b (needF t) x) (j : Int) = some (.inl y)
  | d, j, 0, _, _, _, h, _ => by omega
  | d, j, k + 1, x, hd, hj, hk, hx => by
    show ∃ y, implb6_0 KK (impll6_0 KK k) l (stnOf (0, 0) t w b x) (refOf w b (needF t) x) (j : Int) = some (.inl y)
    unfold implb6_0
    rw [cdec]
    simp only [peta]
    by_cases h : j < l.length
    · have ho := hl _ (getD_mem ByteArray.empty h)
      rw [if_pos (by omega), if_pos (by omega), Int.toNat_natCast, do31 K 0 hx _ (by omega), do40' K hx _ (by omega)]
      simp only [obS]
      rw [if_pos (by omega)]
      have hr := reach_do hx (l.getD j ByteArray.empty)
      rw [ibne, decide_eq_true rfl, equal41 0 hr]
      simp only [obS, Bool.not_true, cond_false]
      rw [wrapS (by omega)]
      exact loop6 K l hl hn (d - 1) (j + 1) k _ (by omega) (by omega) (by omega) hr
    · rw [if_neg (by omega)]
      exact ⟨_, rfl⟩
theorem coreStationOrders (k : KitT) (l : List ByteArray) (hl : l.length ≤ 9223372036854775807) : ∃ K, implf6 K k l = some true := by
  by_cases hK : isLarge k
  · exact ⟨0 + 60, large_front 0 hK⟩
  · by_cases hL : isLong l
    · refine ⟨(l.length + 1000) + 60, ?_⟩
      unfold implf6
      rw [large25, decide_eq_false hK, long26 _ l hl (by omega), decide_eq_true hL, saneK]
      rfl
    · refine ⟨KK, ?_⟩
      obtain ⟨hn, hsz⟩ := notLong hL
      unfold implf6
      rw [large25, decide_eq_false hK, long26 KK l hl (by show l.length < 1000000; omega), decide_eq_false hL]
      simp only [obS, cond_false, peta]
      rw [s50a hK, s50b hK, s43a hK, s43b hK]
      by_cases he : errOf k = 0
      · repeat rw [if_pos he]
        show ob (implf30 KK l) _ = _
        rw [few30 (by omega)]
        obtain ⟨y, e⟩ := loop6 (kit_of he) (l.take 40) (few_size hsz 40) (by simp; omega) _ 0 KK zeroS rfl (Nat.zero_le _) (by simp [KK]; omega) (reach_zero _ _ _)
        have e : impll6_0 KK KK (l.take 40) (stnOf (0, 0) k.1 k.2.1 k.2.2 zeroS) (refOf k.2.1 k.2.2 (needF k.1) zeroS) 0 = some (.inl y) := e
        simp only [obS]
        rw [e, sane]; rfl
      · repeat rw [if_neg he]
        simp only [oelS, ibeq, decide_eq_false he, cond_false]
        rw [failed29 hK he]; rfl
theorem pureStationOrders (x : (insOf tl [45, 26]).ty.den) (hw : wfAll tl [45, 26] x) : ∃ k, implf6 k x.1 x.2.1 = some true := coreStationOrders x.1 x.2.1 hw.2.1.1
end Go.Proofs.YtbpjodikknbcoaaGreatDoor
