/- Run does the orders one by one in a new station. -/
import Derived.Test.YtbpjodikknbcoaaGreatDoorMp5
import Derived.Test.YtbpjodikknbcoaaGreatDoorFStationRuns
set_option maxRecDepth 100000
set_option linter.unusedVariables false
set_option linter.unusedSimpArgs false
namespace Go.Proofs.YtbpjodikknbcoaaGreatDoor
open Go Go.Pv
/-- What orders answer, one after another. -/
noncomputable def errsF (w : List Int) (b : Box) (need : Int) : List ByteArray → Sv → List Int
  | [], _ => []
  | o :: r, x => (doF w b need o x).1 :: errsF w b need r (doF w b need o x).2
theorem errs_len (w : List Int) (b : Box) (need : Int) : ∀ (l : List ByteArray) (x : Sv), (errsF w b need l x).length = l.length
  | [], _ => rfl
  | o :: r, x => congrArg (· + 1) (errs_len w b need r (doF w b need o x).2)
theorem loop42 {t w : List Int} {b : Box} (K : RKit t w b) (l : List ByteArray) (hl : ∀ o ∈ l, o.size ≤ 400) (hn : l.length ≤ 1000) : ∀ (d j k : Nat) (x : Sv) (acc : List Int), l.length - j = d → j ≤ l.length → d < k → acc.length = j → Reach w b (needF t) x →
    impll42_0 KK k (stnOf (0, 0) t w b x) acc l (l.length : Int) (j : Int) = some (stnOf (0, 0) t w b (goF w b (needF t) (l.drop j) x), acc ++ errsF w b (needF t) (l.drop j) x, (l.length : Int), ())
  | d, j, 0, _, _, _, _, h, _, _ => by omega
  | d, j, k + 1, x, acc, hd, hj, hk, ha, hx => by
    show implb42_0 KK (impll42_0 KK k) (stnOf (0, 0) t w b x) acc l (l.length : Int) (j : Int) = _
    unfold implb42_0
    rw [cdec]
    by_cases h : j < l.length
    · have ho := hl _ (getD_mem ByteArray.empty h)
      rw [if_pos (by omega), if_pos (by omega), Int.toNat_natCast, do31 K 0 hx _ (by omega), drop_getD ByteArray.empty h]
      simp only [obS]
      have l1 : ∀ v : Int, ((List.replicate 1 (0 : Int)).set 0 v).length = 1 := fun _ => rfl
      rw [if_pos (by rw [l1, ha]; omega), wrapS (by omega)]
      rw [loop42 K l hl hn (d - 1) (j + 1) k _ _ (by omega) (by omega) (by omega) (by rw [List.length_append, l1, ha]) (reach_do hx _)]
      show some (_, (acc ++ [(doF w b (needF t) (l.getD j ByteArray.empty) x).1]) ++ errsF w b (needF t) (l.drop (j + 1)) _, _, ()) = some (_, acc ++ ((doF w b (needF t) (l.getD j ByteArray.empty) x).1 :: errsF w b (needF t) (l.drop (j + 1)) _), _, ())
      rw [List.append_assoc]
      rfl
    · rw [if_neg (by omega), List.drop_of_length_le (by omega)]
      have : j = l.length := by omega
      rw [this]
      show some (_, acc, _, ()) = some (_, acc ++ [], _, ())
      rw [List.append_nil]; rfl
theorem loop7 {t w : List Int} {b : Box} (K : RKit t w b) (l : List ByteArray) (hl : ∀ o ∈ l, o.size ≤ 400) (hn : l.length ≤ 1000) (es : List Int) (text : ByteArray) : ∀ (d j k : Nat) (x : Sv), l.length - j = d → j ≤ l.length → d < k → es.length = l.length → es.drop j = errsF w b (needF t) (l.drop j) x → Reach w b (needF t) x →
    ∃ z, impll7_0 KK k l es text (stnOf (0, 0) t w b x) (j : Int) = some (.inl (stnOf (0, 0) t w b (goF w b (needF t) (l.drop j) x), z))
  | d, j, 0, _, _, _, h, _, _, _ => by omega
  | d, j, k + 1, x, hd, hj, hk, hes, hdr, hx => by
    show ∃ z, implb7_0 KK (impll7_0 KK k) l es text (stnOf (0, 0) t w b x) (j : Int) = some (.inl (stnOf (0, 0) t w b (goF w b (needF t) (l.drop j) x), z))
    unfold implb7_0
    rw [cdec]
    by_cases h : j < l.length
    · have ho := hl _ (getD_mem ByteArray.empty h)
      rw [drop_getD ByteArray.empty h, drop_getD 0 (show j < es.length by omega)] at hdr
      have hdr : es.getD j 0 :: es.drop (j + 1) = (doF w b (needF t) (l.getD j ByteArray.empty) x).1 :: errsF w b (needF t) (l.drop (j + 1)) (doF w b (needF t) (l.getD j ByteArray.empty) x).2 := hdr
      obtain ⟨g1, g2⟩ := List.cons.inj hdr
      rw [if_pos (by omega), if_pos (by omega), Int.toNat_natCast, do31 K 0 hx _ (by omega), g1]
      simp only [obS]
      rw [if_pos (by omega), ibne, decide_eq_true rfl, wrapS (by omega)]
      simp only [Bool.not_true, cond_false]
      have := loop7 K l hl hn es text (d - 1) (j + 1) k _ (by omega) (by omega) (by omega) hes g2 (reach_do hx _)
      rw [drop_getD ByteArray.empty h]
      exact this
    · rw [if_neg (by omega), List.drop_of_length_le (by omega)]
      exact ⟨_, rfl⟩
theorem run42 {k : KitT} (hK : ¬ isLarge k) (l : List ByteArray) (hl : ∀ o ∈ l, o.size ≤ 400) (hn : l.length ≤ 1000) :
    implf42 KK k.1 k.2.1 k.2.2 l = some (if errOf k = 0 then (if 100 < l.length then ([], ByteArray.mk #[], 3) else (errsF k.2.1 k.2.2 (needF k.1) l zeroS, bookB (goF k.2.1 k.2.2 (needF k.1) l zeroS).orders, 0)) else ([], ByteArray.mk #[], errOf k)) := by
  unfold implf42
  rw [s50a hK, s50b hK]
  by_cases he : errOf k = 0
  · simp only [if_pos he, oelN, obS, ibne, decide_true, Bool.not_true, cond_false, cdec]
    by_cases h : 100 < l.length
    · rw [if_pos (show (l.length : Int) > 100 by omega), if_pos h]
    · rw [if_neg (show ¬ (l.length : Int) > 100 by omega), if_neg h]
      have e := loop42 (kit_of he) l hl hn _ 0 KK zeroS [] rfl (Nat.zero_le _) (by show l.length - 0 < 1000000; omega) rfl (reach_zero _ _ _)
      have e : impll42_0 KK KK (stnOf (0, 0) k.1 k.2.1 k.2.2 zeroS) [] l (l.length : Int) 0 = _ := e
      rw [e, List.drop_zero, List.nil_append]
      simp only [obS]
      rw [book21 0 (reach_go l (reach_zero _ _ _))]
      rfl
  · simp only [if_neg he, oelS, ibne, decide_eq_false he, Bool.not_false, cond_true]
theorem coreStationRuns (k : KitT) (l : List ByteArray) (hl : l.length ≤ 9223372036854775807) : ∃ K, implf7 K k l = some true := by
  by_cases hK : isLarge k
  · exact ⟨0 + 60, large_front 0 hK⟩
  · by_cases hL : isLong l
    · refine ⟨(l.length + 1000) + 60, ?_⟩
      unfold implf7
      rw [large25, decide_eq_false hK, long26 _ l hl (by omega), decide_eq_true hL, saneK]
      rfl
    · refine ⟨KK, ?_⟩
      obtain ⟨hn, hsz⟩ := notLong hL
      unfold implf7
      rw [large25, decide_eq_false hK, long26 KK l hl (by show l.length < 1000000; omega), decide_eq_false hL]
      simp only [obS, cond_false]
      rw [s50a hK, s50b hK, s43a hK, s43b hK, run42 hK l hsz (by omega)]
      by_cases he : errOf k = 0
      · simp only [if_pos he, oelN, obS, ibeq, decide_true, cond_true, cdec]
        by_cases h : 100 < l.length
        · rw [if_pos (show (l.length : Int) > 100 by omega), if_pos h, sane]
          simp [obS]
        · rw [if_neg (show ¬ (l.length : Int) > 100 by omega), if_neg h]
          obtain ⟨z, e⟩ := loop7 (kit_of he) l hsz (by omega) (errsF k.2.1 k.2.2 (needF k.1) l zeroS) (bookB (goF k.2.1 k.2.2 (needF k.1) l zeroS).orders) _ 0 KK zeroS rfl (Nat.zero_le _) (by show l.length - 0 < 1000000; omega) (errs_len _ _ _ _ _) rfl (reach_zero _ _ _)
          have e : impll7_0 KK KK l (errsF k.2.1 k.2.2 (needF k.1) l zeroS) (bookB (goF k.2.1 k.2.2 (needF k.1) l zeroS).orders) (stnOf (0, 0) k.1 k.2.1 k.2.2 zeroS) 0 = _ := e
          rw [List.drop_zero] at e
          simp only [ibne, errs_len, decide_true, Bool.not_true, cond_false]
          rw [e]
          simp only [obS]
          rw [book21 0 (reach_go l (reach_zero _ _ _))]
          simp only [obS, beqB, decide_true, cond_true]
          rw [sane]
          simp [obS]
      · simp only [if_neg he, oelS, ibeq, decide_eq_false he, cond_false, decide_true, cond_true, ibne, Bool.not_false, beqB]
        rw [sane]
        simp [obS, he]
theorem pureStationRuns (x : (insOf tl [45, 26]).ty.den) (hw : wfAll tl [45, 26] x) : ∃ k, implf7 k x.1 x.2.1 = some true := coreStationRuns x.1 x.2.1 hw.2.1.1
end Go.Proofs.YtbpjodikknbcoaaGreatDoor
