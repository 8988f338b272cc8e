/- Air, cartridges and hours are accounted for, and what is left of a book goes on to the same. -/
import Derived.Test.YtbpjodikknbcoaaGreatDoorMt5
import Derived.Test.YtbpjodikknbcoaaGreatDoorFTopStation
set_option maxRecDepth 100000
set_option linter.unusedVariables false
set_option linter.unusedSimpArgs false
namespace Go.Proofs.YtbpjodikknbcoaaGreatDoor
open Go Go.Pv
theorem loop18 {kt : KitT} (he : errOf kt = 0) (keep : Int) (l : List ByteArray) (hl : ∀ o ∈ l, o.size ≤ 400) (hn : l.length ≤ 1000) : ∀ (d j k : Nat) (x : Sv), l.length - j = d → j ≤ l.length → d < k → Reach kt.2.1 kt.2.2 (needF kt.1) x →
    ∃ y z, impll18_0 KK k l keep kt (stnOf (0, 0) kt.1 kt.2.1 kt.2.2 x) (needF kt.1) (j : Int) = some (.inl (stnOf (0, 0) kt.1 kt.2.1 kt.2.2 y, z)) ∧ Reach kt.2.1 kt.2.2 (needF kt.1) y
  | d, j, 0, _, _, _, h, _ => by omega
  | d, j, k + 1, x, hd, hj, hk, hx => by
    show ∃ y z, implb18_0 KK (impll18_0 KK k) l keep kt (stnOf (0, 0) kt.1 kt.2.1 kt.2.2 x) (needF kt.1) (j : Int) = some (.inl (stnOf (0, 0) kt.1 kt.2.1 kt.2.2 y, z)) ∧ _
    unfold implb18_0
    rw [cdec]
    by_cases h : j < l.length
    · rw [if_pos (by omega), cdec]
      by_cases h40 : (j : Int) < 40
      · have ho := hl _ (getD_mem ByteArray.empty h)
        have K := kit_of he
        have hr := reach_do hx (l.getD j ByteArray.empty)
        have hsn := do_snd kt.2.1 kt.2.2 (needF kt.1) (l.getD j ByteArray.empty) x
        have hde := do_err (w := kt.2.1) (b := kt.2.2) (need := needF kt.1) (o := l.getD j ByteArray.empty) (x := x)
        rw [if_pos h40, book21 0 hx, air37, sounded38]
        simp only [obS]
        rw [if_pos (by omega), Int.toNat_natCast, do31 K 0 hx _ (by omega)]
        simp only [obS, sounded38, air37]
        rw [bal39 he hr, book21 0 hr]
        simp only [obS, Bool.not_true, cond_false, beqB, wrapS (show j ≤ 1000000000 by omega)]
        have i1 := reach_inv K hx
        have i2 := reach_inv K hr
        obtain ⟨-, n1⟩ := reach_text hx
        obtain ⟨-, n2⟩ := reach_text hr
        obtain ⟨e, hee⟩ : ∃ e, e = (doF kt.2.1 kt.2.2 (needF kt.1) (l.getD j ByteArray.empty) x).1 := ⟨_, rfl⟩
        obtain ⟨y, hy⟩ : ∃ y, y = (doF kt.2.1 kt.2.2 (needF kt.1) (l.getD j ByteArray.empty) x).2 := ⟨_, rfl⟩
        rw [← hy] at hr i2 n2 hsn hde ⊢
        rw [← hee] at hde ⊢
        have ih := loop18 he keep l hl hn (d - 1) (j + 1) k y (by omega) (by omega) (by omega) hr
        have f1 := i1.fine; have f2 := i2.fine
        have a0 := f1.a0; have a1 := f1.a1; have b0 := f2.a0; have b1 := f2.a1; have s0 := f1.s0; have s1 := f2.s0; have m0 := f1.m0; have m1 := f2.m0; have q0 := f1.sm; have q1 := f2.sm; have r0 := f1.h1; have r1 := f2.h1
        have hA := i1.air; have hB := i2.air
        have hnb := need_bd K.ht
        have inner : ∀ R : Option (Sum ((Stn) × Int × Unit) Bool), (bif decide (y.sounded > x.sounded) then (bif y.air != IntKind.i64.wrap (x.air - IntKind.i64.wrap (needF kt.1 * IntKind.i64.wrap (y.sounded - x.sounded))) then some (Sum.inr false) else R) else R) = R := by
          intro R
          rw [cdec]
          by_cases hg : y.sounded > x.sounded
          · rw [if_pos hg]
            have hp : y.pumped = x.pumped := by rcases hsn with h | h; omega; exact h
            have e1 : needF kt.1 * (y.sounded - x.sounded) = x.air - y.air := by
              rw [Int.mul_comm, Int.sub_mul]; omega
            rw [wrapI (n := y.sounded - x.sounded) (by omega) (by omega), e1, wrapI (n := x.air - y.air) (by omega) (by omega), wrapI (by omega) (by omega), ibne, decide_eq_true (show y.air = x.air - (x.air - y.air) by omega)]
            rfl
          · rw [if_neg hg]
        rw [inner]
        by_cases e0 : e = 0
        · rw [e0]
          exact ih
        · have hyx := hde e0
          rw [hyx, ibne, decide_eq_false e0, decide_eq_true rfl]
          rw [hyx] at ih
          exact ih
      · rw [if_neg h40]
        exact ⟨x, _, rfl, hx⟩
    · rw [if_neg (by omega)]
      exact ⟨x, _, rfl, hx⟩
theorem loop18_2 {kt : KitT} (he : errOf kt = 0) (c : Int) (s : Stn) (text : ByteArray) (l : List ByteArray) (torn : ByteArray) (hl : ∀ o ∈ l, o.size ≤ 400) (hn : l.length ≤ 1000) : ∀ (d j k : Nat) (x y : Sv), l.length - j = d → j ≤ l.length → d < k → Reach kt.2.1 kt.2.2 (needF kt.1) x → stepsF kt.2.1 kt.2.2 (needF kt.1) (l.drop j) x = some y →
    ∃ z, impll18_2 KK k c s text l torn (stnOf (0, 0) kt.1 kt.2.1 kt.2.2 x) (j : Int) = some (.inl (stnOf (0, 0) kt.1 kt.2.1 kt.2.2 y, z))
  | d, j, 0, _, _, _, _, h, _, _ => by omega
  | d, j, k + 1, x, y, hd, hj, hk, hx, hs => by
    show ∃ z, implb18_2 KK (impll18_2 KK k) c s text l torn (stnOf (0, 0) kt.1 kt.2.1 kt.2.2 x) (j : Int) = some (.inl (stnOf (0, 0) kt.1 kt.2.1 kt.2.2 y, z))
    unfold implb18_2
    rw [cdec]
    by_cases h : j < l.length
    · have ho := hl _ (getD_mem ByteArray.empty h)
      rw [drop_getD ByteArray.empty h] at hs
      have hs : (if (doF kt.2.1 kt.2.2 (needF kt.1) (l.getD j ByteArray.empty) x).1 = 0 then stepsF kt.2.1 kt.2.2 (needF kt.1) (l.drop (j + 1)) (doF kt.2.1 kt.2.2 (needF kt.1) (l.getD j ByteArray.empty) x).2 else none) = some y := hs
      rw [if_pos (by omega), if_pos (by omega), Int.toNat_natCast, do31 (kit_of he) 0 hx _ (by omega)]
      simp only [obS]
      by_cases e : (doF kt.2.1 kt.2.2 (needF kt.1) (l.getD j ByteArray.empty) x).1 = 0
      · rw [if_pos e] at hs
        rw [ibne, decide_eq_true e, wrapS (by omega)]
        exact loop18_2 he c s text l torn hl hn (d - 1) (j + 1) k _ y (by omega) (by omega) (by omega) (reach_do hx _) hs
      · rw [if_neg e] at hs; cases hs
    · rw [if_neg (by omega)]
      rw [List.drop_of_length_le (by omega)] at hs
      cases hs
      exact ⟨_, rfl⟩
theorem sum_a : implf46 KK 0 (ByteArray.mk #[(97 : UInt8)]) = some 98 := by
  rw [sum46 _ _ (by decide)]; rfl
theorem coreTopStation (k : KitT) (l : List ByteArray) (keep : Int) (hl : l.length ≤ 9223372036854775807) : ∃ K, implf18 K k l keep = some true := by
  by_cases hL : isLong l ∧ ¬ isLarge k
  · obtain ⟨hL, hK⟩ := hL
    have s46 : ∀ K, implf46 (K + 60) 0 (ByteArray.mk #[(97 : UInt8)]) = some 98 := fun K => by kernel_rfl
    refine ⟨(l.length + 1000) + 60, ?_⟩
    unfold implf18
    rw [s46, large25, decide_eq_false hK, long26 _ l hl (by omega), decide_eq_true hL]
    rfl
  · refine ⟨KK, ?_⟩
    unfold implf18
    rw [sum_a, large25]
    simp only [obS, ibne, decide_true, Bool.not_true, cond_false]
    by_cases hK : isLarge k
    · rw [decide_eq_true hK]; rfl
    · have hL : ¬ isLong l := fun h => hL ⟨h, hK⟩
      obtain ⟨hn, hsz⟩ := notLong hL
      have hsm := small_of hK
      rw [decide_eq_false hK, long26 KK l hl (by show l.length < 1000000; omega), decide_eq_false hL]
      simp only [cond_false, obS]
      rw [s50a hK, s50b hK, sound36 k.1 (by omega)]
      by_cases he : errOf k = 0
      · repeat rw [if_pos he]
        rw [if_pos (kit_of he).ht]
        simp only [oelN, obS, decide_true, Bool.not_true, cond_false]
        obtain ⟨x, z, e, hr⟩ := loop18 he keep l hsz (by omega) _ 0 KK zeroS rfl (Nat.zero_le _) (by show l.length - 0 < 1000000; omega) (reach_zero _ _ _)
        have e : impll18_0 KK KK l keep k (stnOf (0, 0) k.1 k.2.1 k.2.2 zeroS) (needF k.1) 0 = _ := e
        rw [e]
        simp only [obS]
        obtain ⟨h1, h2⟩ := reach_text hr
        have hbs := book_size h1 h2
        rw [book21 0 hr]
        simp only [obS]
        rw [(read_book h1 h2).1]
        simp only [obS]
        obtain ⟨u0, c, hc, hcn⟩ := mod_cut (bookB x.orders).size (by omega) keep
        rw [if_neg u0]
        simp only [hc]
        rw [if_pos (by omega), Int.toNat_natCast]
        obtain ⟨j, rest, e19, hj, hrs, hpre⟩ := book_prefix h1 h2 c hcn
        rw [e19]
        have htl : (x.orders.take j).length = j := by rw [List.length_take]; omega
        simp only [obS, beqB, decide_true, Bool.not_true, cond_false, cdec, htl]
        rw [if_neg (by omega), if_neg (by omega), if_pos (by omega), Int.toNat_natCast, same45 _ _ (by omega), wrapI (n := (c : Int) - (rest.size : Int)) (by omega) (by omega)]
        simp only [obS, decide_true, Bool.not_true, cond_false]
        rw [if_pos (by omega), show ((c : Int) - (rest.size : Int)).toNat = c - rest.size by omega, hpre]
        obtain ⟨y, hy, hyo, hys⟩ := reach_prefix hr j hj
        obtain ⟨a1, a2⟩ := again24 he hy
        rw [hyo] at a1 a2
        rw [a1, a2, htl]
        simp only [oelN, obS, decide_true, Bool.not_true, cond_false]
        obtain ⟨z2, e2⟩ := loop18_2 he (c : Int) (stnOf (0, 0) k.1 k.2.1 k.2.2 x) (bookB x.orders) x.orders rest (fun o ho => by have := text_size (h1 o ho); omega) (by omega) _ j KK y x rfl hj (by show x.orders.length - j < 1000000; omega) hy hys
        rw [e2]
        simp only [obS]
        rw [(merge_begin h1 h2 j hj).1, fired34, book21 0 hr, hour56, fog60, state57, air37, stock33, foggy58, sounded38, missed59, audit55 hK he hr]
        simp only [obS, beqB, decide_true, cond_true, beq_self_eq_true]
        rw [if_pos (by omega)]
        simp
      · repeat rw [if_neg he]
        simp only [oelS, decide_eq_false he, Bool.not_false, cond_true]
        obtain ⟨l', rest', e1, -, hn', hl', -⟩ := read_all (ByteArray.mk #[]) (by decide)
        have hrep := (rep24 hK e1 hl' hn').1 0 (errOf k) (by unfold repF; rw [if_neg he])
        rw [hrep]
        simp only [oelS, beq_self_eq_true, cond_true]
theorem pureTopStation (x : (insOf tl [45, 26, 3]).ty.den) (hw : wfAll tl [45, 26, 3] x) : ∃ k, implf18 k x.1 x.2.1 x.2.2.1 = some true := coreTopStation x.1 x.2.1 x.2.2.1 hw.2.1.1
end Go.Proofs.YtbpjodikknbcoaaGreatDoor
