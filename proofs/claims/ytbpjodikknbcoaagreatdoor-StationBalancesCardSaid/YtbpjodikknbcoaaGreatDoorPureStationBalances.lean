/- All air that came is there or was sounded, and all cartridges that came are there or were fired. -/
import Derived.Test.YtbpjodikknbcoaaGreatDoorMp5
import Derived.Test.YtbpjodikknbcoaaGreatDoorFStationBalances
set_option maxRecDepth 100000
set_option linter.unusedVariables false
set_option linter.unusedSimpArgs false
namespace Go.Proofs.YtbpjodikknbcoaaGreatDoor
open Go Go.Pv
theorem loop5 {kt : KitT} (he : errOf kt = 0) (l : List ByteArray) (hl : ∀ o ∈ l, o.size ≤ 400) (hn : l.length ≤ 1000) : ∀ (d j k : Nat) (x : Sv), l.length - j = d → j ≤ l.length → d < k → Reach kt.2.1 kt.2.2 (needF kt.1) x →
    ∃ z, impll5_0 KK k l kt (stnOf (0, 0) kt.1 kt.2.1 kt.2.2 x) (needF kt.1) x.pumped x.stocked (j : Int) = some (.inl z)
  | d, j, 0, _, _, _, h, _ => by omega
  | d, j, k + 1, x, hd, hj, hk, hx => by
    show ∃ z, implb5_0 KK (impll5_0 KK k) l kt (stnOf (0, 0) kt.1 kt.2.1 kt.2.2 x) (needF kt.1) x.pumped x.stocked (j : Int) = some (.inl z)
    unfold implb5_0
    rw [cdec]
    by_cases h : j < l.length
    · have ho := hl _ (getD_mem ByteArray.empty h)
      have K := kit_of he
      have hr := reach_do hx (l.getD j ByteArray.empty)
      have hg : 0 ≤ (j : Int) ∧ (j : Int) < (l.length : Int) := by omega
      rw [if_pos (by omega), air37, stock33, Int.toNat_natCast, do31 K 0 hx _ (by omega)]
      simp only [obS, if_pos hg, air37, stock33, fired34, sounded38]
      rw [bal39 he hr]
      have hps := do_sums (need := needF kt.1) (w := kt.2.1) (b := kt.2.2) (o := l.getD j ByteArray.empty) (x := x)
      obtain ⟨o, hoo⟩ : ∃ o, o = l.getD j ByteArray.empty := ⟨_, rfl⟩
      rw [← hoo] at hr ho hps ⊢
      have i1 := reach_inv K hx
      have i2 := reach_inv K hr
      obtain ⟨-, n1⟩ := reach_text hx
      obtain ⟨-, n2⟩ := reach_text hr
      obtain ⟨y, hy⟩ : ∃ y, y = (doF kt.2.1 kt.2.2 (needF kt.1) o x).2 := ⟨_, rfl⟩
      obtain ⟨e, hee⟩ : ∃ e, e = (doF kt.2.1 kt.2.2 (needF kt.1) o x).1 := ⟨_, rfl⟩
      rw [← hy] at hr i2 n2 hps ⊢
      rw [← hee] at hps ⊢
      have a0 := i1.fine.a0; have a1 := i1.fine.a1; have b0 := i2.fine.a0; have b1 := i2.fine.a1
      have c0 := i1.rich.c0; have c1 := i1.rich.c1; have d0 := i2.rich.c0; have d1 := i2.rich.c1
      have p0 := i1.rich.p0; have p1 := i1.rich.p1; have q0 := i2.rich.p0; have q1 := i2.rich.p1
      have k0 := i1.rich.k0; have k1 := i1.rich.k1; have m0 := i2.rich.k0; have m1 := i2.rich.k1
      have u0 := i2.rich.u0; have u1 := i2.rich.u1
      have hA := i2.air; have hS := i2.stk
      have w1 : IntKind.i64.wrap (y.air + IntKind.i64.wrap (needF kt.1 * y.sounded)) = y.pumped := by
        rw [Int.mul_comm, show y.sounded * needF kt.1 = y.pumped - y.air by omega, wrapI (n := y.pumped - y.air) (by omega) (by omega), wrapI (by omega) (by omega)]
        omega
      have w2 : IntKind.i64.wrap (y.stock + y.used) = y.stocked := by
        rw [wrapI (by omega) (by omega)]; omega
      have w3 : IntKind.i64.wrap (x.pumped + IntKind.i64.wrap (y.air - x.air)) = x.pumped + (y.air - x.air) := by
        rw [wrapI (n := y.air - x.air) (by omega) (by omega), wrapI (by omega) (by omega)]
      have w4 : IntKind.i64.wrap (x.stocked + IntKind.i64.wrap (y.stock - x.stock)) = x.stocked + (y.stock - x.stock) := by
        rw [wrapI (n := y.stock - x.stock) (by omega) (by omega), wrapI (by omega) (by omega)]
      have ih := loop5 he l hl hn (d - 1) (j + 1) k y (by omega) (by omega) (by omega) hr
      simp only [w1, w2, w3, w4, wrapS (show j ≤ 1000000000 by omega), ibne, ibeq, cnot, cdec, beqB]
      by_cases e0 : e = 0
      · obtain ⟨s1, s2⟩ := hps.1 e0
        simp only [e0, if_true]
        by_cases h5 : (o.size : Int) > 5
        · have hg5 : 0 ≤ (0 : Int) ∧ 0 ≤ (5 : Int) ∧ (5 : Int) ≤ (o.size : Int) := by omega
          simp only [h5, hg5, and_self, if_true]
          have h5' : 5 < o.size := by omega
          by_cases hp : o.extract 0 5 = ByteArray.mk #[(112 : UInt8), (117 : UInt8), (109 : UInt8), (112 : UInt8), (32 : UInt8)]
          · have hs : ¬ o.extract 0 5 = ByteArray.mk #[(115 : UInt8), (116 : UInt8), (111 : UInt8), (99 : UInt8), (107 : UInt8)] := by rw [hp]; decide
            rw [if_pos ⟨h5', hp⟩] at s1
            rw [if_neg (fun hh => hs hh.2)] at s2
            rw [if_pos hp, if_neg hs, ← s1, if_pos rfl, if_pos (by omega)]
            have e2 : x.stocked = y.stocked := by omega
            rw [e2]
            exact ih
          · rw [if_neg (fun hh => hp hh.2)] at s1
            have e1 : x.pumped = y.pumped := by omega
            by_cases hs : o.extract 0 5 = ByteArray.mk #[(115 : UInt8), (116 : UInt8), (111 : UInt8), (99 : UInt8), (107 : UInt8)]
            · rw [if_pos ⟨h5', hs⟩] at s2
              rw [if_neg hp, if_pos hs, ← s2, if_pos e1, if_pos rfl, e1]
              exact ih
            · rw [if_neg (fun hh => hs hh.2)] at s2
              have e2 : x.stocked = y.stocked := by omega
              rw [if_neg hp, if_neg hs, if_pos e1, if_pos e2, e1, e2]
              exact ih
        · rw [if_neg (fun hh => h5 (by omega))] at s1
          rw [if_neg (fun hh => h5 (by omega))] at s2
          have e1 : x.pumped = y.pumped := by omega
          have e2 : x.stocked = y.stocked := by omega
          rw [if_neg h5, if_pos e1, if_pos e2, e1, e2]
          exact ih
      · have hyx := hps.2 e0
        rw [if_neg e0]
        rw [hyx] at ih ⊢
        rw [if_pos rfl, if_pos rfl]
        exact ih
    · rw [if_neg (by omega)]
      exact ⟨_, rfl⟩
theorem coreStationBalances (k : KitT) (l : List ByteArray) (hl : l.length ≤ 9223372036854775807) : ∃ K, implf5 K k l = some true := by
  by_cases hK : isLarge k
  · exact ⟨0 + 60, large_front 0 hK⟩
  · by_cases hL : isLong l
    · refine ⟨(l.length + 1000) + 60, ?_⟩
      unfold implf5
      rw [large25, decide_eq_false hK, long26 _ l hl (by omega), decide_eq_true hL, saneK]
      rfl
    · refine ⟨KK, ?_⟩
      obtain ⟨hn, hsz⟩ := notLong hL
      have hs := small_of hK
      unfold implf5
      rw [large25, decide_eq_false hK, long26 KK l hl (by show l.length < 1000000; omega), decide_eq_false hL]
      simp only [obS, cond_false, peta]
      rw [s50a hK, s50b hK, s43a hK, s43b hK, sound36 k.1 (by omega)]
      by_cases he : errOf k = 0
      · repeat rw [if_pos he]
        rw [if_pos (kit_of he).ht]
        show ob (implf30 KK l) _ = _
        rw [few30 (by omega)]
        obtain ⟨z, e⟩ := loop5 he (l.take 40) (few_size hsz 40) (by simp; omega) _ 0 KK zeroS rfl (Nat.zero_le _) (by simp [KK]; omega) (reach_zero _ _ _)
        have e : impll5_0 KK KK (l.take 40) k (stnOf (0, 0) k.1 k.2.1 k.2.2 zeroS) (needF k.1) 0 0 0 = some (.inl z) := e
        simp only [obS]
        rw [e, sane]; rfl
      · repeat rw [if_neg he]
        simp only [oelS, ibeq, decide_eq_false he, cond_false]
        rw [failed29 hK he]; rfl
theorem pureStationBalances (x : (insOf tl [45, 26]).ty.den) (hw : wfAll tl [45, 26] x) : ∃ k, implf5 k x.1 x.2.1 = some true := coreStationBalances x.1 x.2.1 hw.2.1.1
end Go.Proofs.YtbpjodikknbcoaaGreatDoor
