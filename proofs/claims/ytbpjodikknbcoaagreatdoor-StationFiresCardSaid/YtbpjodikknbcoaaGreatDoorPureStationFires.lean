/- What is fired takes the fewest cartridges. -/
import Derived.Test.YtbpjodikknbcoaaGreatDoorMr5
import Derived.Test.YtbpjodikknbcoaaGreatDoorFStationFires
set_option maxRecDepth 100000
set_option linter.unusedVariables false
set_option linter.unusedSimpArgs false
namespace Go.Proofs.YtbpjodikknbcoaaGreatDoor
open Go Go.Pv
theorem loop4 {t w : List Int} {b : Box} (K : RKit t w b) (kt : KitT) (am : Int) (l : List ByteArray) (hl : ∀ o ∈ l, o.size ≤ 400) (hn : l.length ≤ 1000) : ∀ (d j k : Nat) (x : Sv), l.length - j = d → j ≤ l.length → d < k → Reach w b (needF t) x →
    ∃ y z, impll4_0 KK k l am kt (stnOf (0, 0) t w b x) (j : Int) = some (stnOf (0, 0) t w b y, z) ∧ Reach w b (needF t) y
  | d, j, 0, _, _, _, h, _ => by omega
  | d, j, k + 1, x, hd, hj, hk, hx => by
    show ∃ y z, implb4_0 KK (impll4_0 KK k) l am kt (stnOf (0, 0) t w b x) (j : Int) = some (stnOf (0, 0) t w b y, z) ∧ _
    unfold implb4_0
    rw [cdec]
    by_cases h : j < l.length
    · have ho := hl _ (getD_mem ByteArray.empty h)
      rw [if_pos (by omega), if_pos (by omega), Int.toNat_natCast, do31 K 0 hx _ (by omega)]
      simp only [obS]
      rw [wrapS (by omega)]
      exact loop4 K kt am l hl hn (d - 1) (j + 1) k _ (by omega) (by omega) (by omega) (reach_do hx _)
    · rw [if_neg (by omega)]
      exact ⟨x, _, rfl, hx⟩
theorem coreStationFires (k : KitT) (l : List ByteArray) (am : Int) (hl : l.length ≤ 9223372036854775807) : ∃ K, implf4 K k l am = some true := by
  by_cases hK : isLarge k
  · exact ⟨0 + 60, large_front 0 hK⟩
  · by_cases hL : isLong l
    · refine ⟨(l.length + 1000) + 60, ?_⟩
      unfold implf4
      rw [large25, decide_eq_false hK, long26 _ l hl (by omega), decide_eq_true hL, saneK]
      rfl
    · refine ⟨KK, ?_⟩
      obtain ⟨hn, hsz⟩ := notLong hL
      unfold implf4
      rw [large25, decide_eq_false hK, long26 KK l hl (by show l.length < 1000000; omega), decide_eq_false hL]
      simp only [obS, cond_false]
      rw [s50a hK, s50b hK, s43a hK, s43b hK]
      by_cases he : errOf k = 0
      · have K := kit_of he
        repeat rw [if_pos he]
        show ob (implf30 KK l) _ = _
        rw [few30 (by omega)]
        obtain ⟨y, z, e, hr⟩ := loop4 K k am (l.take 40) (few_size hsz 40) (by simp; omega) _ 0 KK zeroS rfl (Nat.zero_le _) (by simp [KK]; omega) (reach_zero _ _ _)
        have e : impll4_0 KK KK (l.take 40) am k (stnOf (0, 0) k.1 k.2.1 k.2.2 zeroS) 0 = _ := e
        simp only [obS]
        rw [e]
        simp only [obS]
        by_cases ha : 0 ≤ am ∧ am ≤ 2000
        · obtain ⟨n, rfl⟩ : ∃ n : Nat, am = (n : Int) := ⟨am.toNat, by omega⟩
          have hn2 : n ≤ 2000 := by omega
          rw [fewest32 k.2.1 K.hw n hn2, sane]
          by_cases h0 : n = 0
          · subst h0
            unfold fewF
            split
            · rfl
            · rfl
          · obtain ⟨s, e35, hs4, hp⟩ := fire_text h0 hn2
            have hfs : fireB.size + s.size ≤ 140737488355328 := by
              have : fireB.size = 5 := rfl
              omega
            have hsz : (fireB ++ s).size ≤ 9223372036854775807 := by rw [size_app]; omega
            have hne : ((n : Int) == 0) = false := beq_eq_false_iff_ne.2 (by omega)
            have hd := do_fire (w := k.2.1) (b := k.2.2) (need := needF k.1) hp y
            have q := (reach_inv K hr).rich
            obtain ⟨-, hy2⟩ := reach_text hr
            have q0 := q.c0; have q1 := q.c1; have q2 := q.m0; have q3 := q.m1; have q4 := q.u0; have q5 := q.u1
            have hv := tabF_rng k.2.1 n n
            rw [stock33, fired34, e35, hne]
            simp only [obS, cond_false]
            rw [if_pos hfs, do31 K 0 hr (fireB ++ s) hsz, hd]
            by_cases h100 : 100 ≤ y.orders.length
            · rw [if_pos h100]
              unfold fewF
              split
              · rfl
              · rfl
            · rw [if_neg h100]
              unfold fireF fewF
              rw [if_neg (show ¬ (n = 0 ∨ 2000 < n) by omega)]
              obtain ⟨v, hve⟩ : ∃ v, v = (tabF k.2.1 n).getD n 0 := ⟨_, rfl⟩
              rw [← hve] at hv ⊢
              by_cases h1 : v < 0
              · rw [if_pos h1, if_pos h1]
                show (bif y.stock == y.stock then some true else some false) = _
                rw [beq_self_eq_true]; rfl
              · rw [if_neg h1, if_neg h1]
                by_cases h2 : y.stock < v
                · rw [if_pos h2]
                  show (bif decide (v > y.stock) then (bif y.stock == y.stock then some true else some false) else some false) = _
                  rw [decide_eq_true (show v > y.stock from h2), beq_self_eq_true]; rfl
                · rw [if_neg h2]
                  show (bif decide (v ≤ y.stock) then (bif (y.stock - v) == IntKind.i64.wrap (y.stock - v) then (bif (y.amount + n) == IntKind.i64.wrap (y.amount + n) then (bif (y.used + v) == IntKind.i64.wrap (y.used + v) then some true else some false) else some false) else some false) else some false) = _
                  rw [decide_eq_true (show v ≤ y.stock by omega), wrapI (n := y.stock - v) (by omega) (by omega), wrapI (n := y.amount + n) (by omega) (by omega), wrapI (n := y.used + v) (by omega) (by omega), beq_self_eq_true, beq_self_eq_true, beq_self_eq_true]
                  rfl
        · rw [fewest_bad k.2.1 K.hw am ha, sane]
          rfl
      · repeat rw [if_neg he]
        simp only [oelS, ibeq, decide_eq_false he, cond_false]
        rw [failed29 hK he]; rfl
theorem pureStationFires (x : (insOf tl [45, 26, 3]).ty.den) (hw : wfAll tl [45, 26, 3] x) : ∃ k, implf4 k x.1 x.2.1 x.2.2.1 = some true := coreStationFires x.1 x.2.1 x.2.2.1 hw.2.1.1
end Go.Proofs.YtbpjodikknbcoaaGreatDoor
