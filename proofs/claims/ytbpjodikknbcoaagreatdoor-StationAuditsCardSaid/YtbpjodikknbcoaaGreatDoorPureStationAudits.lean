/- The audit always holds. -/
import Derived.Test.YtbpjodikknbcoaaGreatDoorMp5
import Derived.Test.YtbpjodikknbcoaaGreatDoorFStationAudits
set_option maxRecDepth 100000
set_option linter.unusedVariables false
set_option linter.unusedSimpArgs false
namespace Go.Proofs.YtbpjodikknbcoaaGreatDoor
open Go Go.Pv
theorem loop14 {kt : KitT} (hK : ¬ isLarge kt) (he : errOf kt = 0) (l : List ByteArray) (hl : ∀ o ∈ l, o.size ≤ 400) (hn : l.length ≤ 1000) : ∀ (d j k : Nat) (x : Sv), l.length - j = d → j ≤ l.length → d < k → Reach kt.2.1 kt.2.2 (needF kt.1) x →
    ∃ y z, impll14_0 KK k l (stnOf (0, 0) kt.1 kt.2.1 kt.2.2 x) (j : Int) = some (.inl (stnOf (0, 0) kt.1 kt.2.1 kt.2.2 y, z)) ∧ Reach kt.2.1 kt.2.2 (needF kt.1) y
  | d, j, 0, _, _, _, h, _ => by omega
  | d, j, k + 1, x, hd, hj, hk, hx => by
    show ∃ y z, implb14_0 KK (impll14_0 KK k) l (stnOf (0, 0) kt.1 kt.2.1 kt.2.2 x) (j : Int) = some (.inl (stnOf (0, 0) kt.1 kt.2.1 kt.2.2 y, z)) ∧ _
    unfold implb14_0
    rw [cdec]
    by_cases h : j < l.length
    · have ho := hl _ (getD_mem ByteArray.empty h)
      rw [if_pos (by omega), if_pos (by omega), Int.toNat_natCast, do31 (kit_of he) 0 hx _ (by omega)]
      have hr := reach_do hx (l.getD j ByteArray.empty)
      simp only [obS]
      rw [audit55 hK he hr, wrapS (by omega)]
      simp only [obS, Bool.not_true, cond_false]
      have := loop14 hK he l hl hn (d - 1) (j + 1) k _ (by omega) (by omega) (by omega) hr
      cases ((j : Int).tmod 8 == 0)
      · exact this
      · exact this
    · rw [if_neg (by omega)]
      exact ⟨x, _, rfl, hx⟩
theorem coreStationAudits (k : KitT) (l : List ByteArray) (hl : l.length ≤ 9223372036854775807) : ∃ K, implf14 K k l = some true := by
  by_cases hK : isLarge k
  · exact ⟨0 + 60, large_front 0 hK⟩
  · by_cases hL : isLong l
    · refine ⟨(l.length + 1000) + 60, ?_⟩
      unfold implf14
      rw [large25, decide_eq_false hK, long26 _ l hl (by omega), decide_eq_true hL, saneK]
      rfl
    · refine ⟨KK, ?_⟩
      obtain ⟨hn, hsz⟩ := notLong hL
      unfold implf14
      rw [large25, decide_eq_false hK, long26 KK l hl (by show l.length < 1000000; omega), decide_eq_false hL]
      simp only [obS, cond_false, peta]
      rw [s50a hK, s50b hK, s43a hK, s43b hK]
      by_cases he : errOf k = 0
      · repeat rw [if_pos he]
        show ob (implf30 KK l) _ = _
        rw [few30 (by omega)]
        obtain ⟨y, z, e, hr⟩ := loop14 hK he (l.take 40) (few_size hsz 40) (by simp; omega) _ 0 KK zeroS rfl (Nat.zero_le _) (by simp [KK]; omega) (reach_zero _ _ _)
        have e : impll14_0 KK KK (l.take 40) (stnOf (0, 0) k.1 k.2.1 k.2.2 zeroS) 0 = some (.inl (stnOf (0, 0) k.1 k.2.1 k.2.2 y, z)) := e
        simp only [obS]
        rw [e]
        show ob (implf55a KK (stnOf (0, 0) k.1 k.2.1 k.2.2 y)) _ = _
        rw [audit55 hK he hr, sane]; rfl
      · repeat rw [if_neg he]
        simp only [oelS, ibeq, decide_eq_false he, cond_false]
        rw [failed29 hK he]; rfl
theorem pureStationAudits (x : (insOf tl [45, 26]).ty.den) (hw : wfAll tl [45, 26] x) : ∃ k, implf14 k x.1 x.2.1 = some true := coreStationAudits x.1 x.2.1 hw.2.1.1
end Go.Proofs.YtbpjodikknbcoaaGreatDoor
