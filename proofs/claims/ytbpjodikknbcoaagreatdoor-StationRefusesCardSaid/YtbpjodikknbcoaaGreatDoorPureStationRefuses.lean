/- An order that is refused changes nothing. -/
import Derived.Test.YtbpjodikknbcoaaGreatDoorMs5
import Derived.Test.YtbpjodikknbcoaaGreatDoorFStationRefuses
set_option maxRecDepth 100000
set_option linter.unusedVariables false
set_option linter.unusedSimpArgs false
namespace Go.Proofs.YtbpjodikknbcoaaGreatDoor
open Go Go.Pv
theorem loop51r {t w : List Int} {b : Box} (K : RKit t w b) (l : List ByteArray) (hl : ∀ o ∈ l, o.size ≤ 400) (hn : l.length ≤ 1000) : ∀ (d j k : Nat) (x : Sv), l.length - j = d → j ≤ l.length → d < k → Reach w b (needF t) x →
    ∃ y z, impll51_0 KK k (stnOf (0, 0) t w b x) (refOf w b (needF t) x) l (j : Int) = some (.inl (stnOf (0, 0) t w b y, refOf w b (needF t) y, z)) ∧ Reach w b (needF t) y
  | d, j, 0, _, _, _, h, _ => by omega
  | d, j, k + 1, x, hd, hj, hk, hx => by
    show ∃ y z, implb51_0 KK (impll51_0 KK k) (stnOf (0, 0) t w b x) (refOf w b (needF t) x) l (j : Int) = some (.inl (stnOf (0, 0) t w b y, refOf w b (needF t) y, z)) ∧ _
    unfold implb51_0
    rw [cdec]
    simp only [peta]
    by_cases h : j < l.length
    · have ho := hl _ (getD_mem ByteArray.empty h)
      rw [if_pos (by omega), if_pos (by omega), Int.toNat_natCast, do31 K 0 hx _ (by omega), do40' K hx _ (by omega)]
      simp only [obS]
      rw [if_pos (by omega)]
      have hr := reach_do hx (l.getD j ByteArray.empty)
      rw [ibne, decide_eq_true rfl]
      simp only [obS, Bool.not_true, cond_false]
      rw [wrapS (by omega)]
      exact loop51r K l hl hn (d - 1) (j + 1) k _ (by omega) (by omega) (by omega) hr
    · rw [if_neg (by omega)]
      exact ⟨x, _, rfl, hx⟩
theorem all51r {t w : List Int} {b : Box} (K : RKit t w b) (l : List ByteArray) (hl : ∀ o ∈ l, o.size ≤ 400) (hn : l.length ≤ 1000) {x : Sv} (hx : Reach w b (needF t) x) :
    ∃ y, implf51 KK (stnOf (0, 0) t w b x) (refOf w b (needF t) x) l = some (true, stnOf (0, 0) t w b y, refOf w b (needF t) y) ∧ Reach w b (needF t) y := by
  obtain ⟨y, z, e, hr⟩ := loop51r K l hl hn _ 0 KK x rfl (Nat.zero_le _) (by show l.length - 0 < 1000000; omega) hx
  refine ⟨y, ?_, hr⟩
  unfold implf51
  simp only [peta]
  have e : impll51_0 KK KK (stnOf (0, 0) t w b x) (refOf w b (needF t) x) l 0 = _ := e
  rw [e]; rfl
theorem s50c {k : KitT} (h : ¬ isLarge k) : implf50c KK k.1 k.2.1 k.2.2 = if errOf k = 0 then some (stnOf (0, 0) k.1 k.2.1 k.2.2 zeroS, 0) else none := by
  obtain ⟨h1, h2, h3, h4⟩ := small_of h
  unfold implf50c errOf kitErr
  rw [tone77 k.1 (by omega), weights86 k.2.1 (by omega), box87 k.2.2, clone88 k.1 (by omega), clone88 k.2.1 (by omega), clone88 k.2.2.2 (by omega), clone89 k.2.2.1 (by omega)]
  simp only [obS, ibne, cnot, cdec]
  by_cases e1 : vTone k.1 = 0
  · by_cases e2 : vWeights k.2.1 = 0
    · by_cases e3 : vBox k.2.2 = 0
      · simp only [e1, e2, e3, if_true]; rfl
      · simp only [e1, e2, e3, if_true, if_false]
    · simp only [e1, e2, if_true, if_false]
  · simp only [e1, if_false]
theorem rep0 {α : Type} (a : α) (l : List α) : List.replicate 0 a ++ l = l := rfl
theorem coreStationRefuses (k : KitT) (l : List ByteArray) (o : ByteArray) (hl : l.length ≤ 9223372036854775807) : ∃ K, implf10 K k l o = some true := by
  by_cases hK : isLarge k
  · exact ⟨0 + 60, large_front 0 hK⟩
  · by_cases hL : isLong l
    · refine ⟨(l.length + 1000) + 60, ?_⟩
      unfold implf10
      rw [large25, decide_eq_false hK, long26 _ l hl (by omega), decide_eq_true hL, saneK]
      rfl
    · refine ⟨KK, ?_⟩
      obtain ⟨hn, hsz⟩ := notLong hL
      unfold implf10
      simp only [rep0, peta]
      rw [large25, decide_eq_false hK, long26 KK l hl (by show l.length < 1000000; omega), decide_eq_false hL]
      simp only [obS, cond_false]
      rw [cdec]
      by_cases h400 : (o.size : Int) > 400
      · rw [if_pos h400, sane]; rfl
      · rw [if_neg h400, s50a hK, s50c hK, s43a hK, s43b hK]
        by_cases he : errOf k = 0
        · have K := kit_of he
          obtain ⟨⟨t1, t2⟩, -⟩ := bits_of K.ht
          obtain ⟨⟨w1, w2⟩, -⟩ := weights_of K.hw
          obtain ⟨⟨b1, b2⟩, b3, -⟩ := box_of K.hb
          repeat rw [if_pos he]
          have l0 : ∀ {α : Type} (a : α), (List.replicate 0 a).length = 0 := fun _ => rfl
          have c1 : (0 + k.1.length) * 8 ≤ 140737488355328 := by omega
          have c2 : (0 + k.2.1.length) * 8 ≤ 140737488355328 := by omega
          have c3 : (0 + k.2.2.1.length) * 16 ≤ 140737488355328 := by omega
          have c4 : (0 + k.2.2.2.length) * 8 ≤ 140737488355328 := by omega
          have d1 : (0 : Int) ≤ 0 ∧ (0 : Int) < (k.1.length : Int) := by omega
          have d2 : (0 : Int) ≤ 0 ∧ (0 : Int) < (k.2.1.length : Int) := by omega
          have d3 : (0 : Int) ≤ 0 ∧ (0 : Int) < (k.2.2.2.length : Int) := by omega
          simp only [l0, oelN, obS, ibeq, ibne, decide_true, Bool.not_true, cond_true, cond_false, if_pos c1, if_pos c2, if_pos c3, if_pos c4, if_pos d1, if_pos d2, if_pos d3]
          rw [few30 (by omega)]
          obtain ⟨y, e, hr⟩ := all51r K (l.take 40) (few_size hsz 40) (by simp; omega) (reach_zero _ _ _)
          obtain ⟨h1, h2⟩ := reach_text hr
          simp only [obS]
          rw [e]
          simp only [obS, Bool.not_true, cond_false]
          rw [do31 K 0 hr o (by omega)]
          simp only [obS]
          have hr' := reach_do hr o
          by_cases e0 : (doF k.2.1 k.2.2 (needF k.1) o y).1 = 0
          · obtain ⟨ho, -, hlt⟩ := do_ok e0
            obtain ⟨g1, g2⟩ := reach_text hr'
            rw [decide_eq_true e0]
            simp only [Bool.not_true, cond_false]
            rw [book21 0 hr']
            simp only [obS]
            rw [(read_book g1 g2).1, ho, sane]
            simp only [obS, beqB, decide_true, cond_true]
            show (if (0 + y.orders.length) * 16 ≤ 140737488355328 then (if (y.orders.length + 1) * 16 ≤ 140737488355328 then ob (implf45 KK (y.orders ++ [o]) (y.orders ++ [o])) _ else none) else none) = _
            rw [if_pos (by omega), if_pos (by omega), same45 _ _ (by rw [List.length_append]; show y.orders.length + 1 ≤ 1000; omega)]
            simp only [obS, decide_true, cond_true]
          · rw [decide_eq_false e0, do_err e0, equal41 0 hr, sane]
            rfl
        · repeat rw [if_neg he]
          simp only [oelS, ibeq, decide_eq_false he, cond_false]
          rw [failed29 hK he]; rfl
theorem pureStationRefuses (x : (insOf tl [45, 26, 9]).ty.den) (hw : wfAll tl [45, 26, 9] x) : ∃ k, implf10 k x.1 x.2.1 x.2.2.1 = some true := coreStationRefuses x.1 x.2.1 x.2.2.1 hw.2.1.1
end Go.Proofs.YtbpjodikknbcoaaGreatDoor
