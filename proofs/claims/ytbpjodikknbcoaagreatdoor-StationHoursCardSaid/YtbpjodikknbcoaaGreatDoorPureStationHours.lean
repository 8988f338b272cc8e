/- In an hour the state of the box goes on as relay says. -/
import Derived.Test.YtbpjodikknbcoaaGreatDoorMp5
import Derived.Test.YtbpjodikknbcoaaGreatDoorFStationHours
import Derived.KernelRfl
set_option maxRecDepth 100000
set_option linter.unusedVariables false
set_option linter.unusedSimpArgs false
namespace Go.Proofs.YtbpjodikknbcoaaGreatDoor
open Go Go.Pv
abbrev waitB : ByteArray := ByteArray.mk #[(119 : UInt8), (97 : UInt8), (105 : UInt8), (116 : UInt8), (32 : UInt8), (49 : UInt8)]
theorem wait_read : implf102 KK waitB = some ((3, 1), true) := by kernel_rfl
theorem parse_wait : parseF waitB = some (3, 1) := by
  have h := wait_read
  rw [parse102 waitB (by decide)] at h
  have h := Option.some.inj h
  cases hp : parseF waitB with
  | none => rw [hp] at h; cases h
  | some p =>
    rw [hp] at h
    have h : (p, true) = ((3, 1), true) := h
    rw [(Prod.mk.inj h).1]
theorem do_wait (w : List Int) (b : Box) (need : Int) (x : Sv) : doF w b need waitB x = if 100 ≤ x.orders.length then (3, x) else (0, { passF b need x with orders := x.orders ++ [waitB] }) := by
  unfold doF
  rw [parse_wait]
  show (if 100 ≤ x.orders.length then (3, x) else if (exeF w b need 3 1 x).1 = 0 then (0, { (exeF w b need 3 1 x).2 with orders := (exeF w b need 3 1 x).2.orders ++ [waitB] }) else ((exeF w b need 3 1 x).1, x)) = _
  by_cases h : 100 ≤ x.orders.length
  · rw [if_pos h, if_pos h]
  · rw [if_neg h, if_neg h]
    have e : exeF w b need 3 1 x = (0, passF b need x) := rfl
    rw [e, if_pos rfl]
    show ((0 : Int), { passF b need x with orders := (passF b need x).orders ++ [waitB] }) = _
    rw [pass_orders]
theorem pass_says (b : Box) (need : Int) (x : Sv) : (passF b need x).hour = x.hour + 1 ∧ (passF b need x).sounded + (passF b need x).missed = x.sounded + x.missed + (if b.2.getD (nextF b x).toNat 0 = 0 then 0 else 1) := by
  unfold passF
  by_cases h : b.2.getD (nextF b x).toNat 0 = 0
  · simp only [if_pos h]
    refine ⟨by first | rfl | trivial, by show x.sounded + x.missed = _; omega⟩
  · simp only [if_neg h]
    by_cases h2 : x.air < need
    · simp only [if_pos h2]
      refine ⟨by first | rfl | trivial, by show x.sounded + (x.missed + 1) = _; omega⟩
    · simp only [if_neg h2]
      refine ⟨by first | rfl | trivial, by show (x.sounded + 1) + x.missed = _; omega⟩
theorem loop16 {t w : List Int} {b : Box} (K : RKit t w b) (kt : KitT) (l : List ByteArray) (hl : ∀ o ∈ l, o.size ≤ 400) (hn : l.length ≤ 1000) : ∀ (d j k : Nat) (x : Sv), l.length - j = d → j ≤ l.length → d < k → Reach w b (needF t) x →
    ∃ y z, impll16_0 KK k l kt (stnOf (0, 0) t w b x) (j : Int) = some (stnOf (0, 0) t w b y, z) ∧ Reach w b (needF t) y
  | d, j, 0, _, _, _, h, _ => by omega
  | d, j, k + 1, x, hd, hj, hk, hx => by
    show ∃ y z, implb16_0 KK (impll16_0 KK k) l kt (stnOf (0, 0) t w b x) (j : Int) = some (stnOf (0, 0) t w b y, z) ∧ _
    unfold implb16_0
    rw [cdec]
    by_cases h : j < l.length
    · have ho := hl _ (getD_mem ByteArray.empty h)
      rw [if_pos (by omega), if_pos (by omega), Int.toNat_natCast, do31 K 0 hx _ (by omega)]
      simp only [obS]
      rw [wrapS (by omega)]
      exact loop16 K kt l hl hn (d - 1) (j + 1) k _ (by omega) (by omega) (by omega) (reach_do hx _)
    · rw [if_neg (by omega)]
      exact ⟨x, _, rfl, hx⟩
/-- What the law says behind the orders, for an input of the box. -/
theorem hour_tail {k : KitT} (he : errOf k = 0) {y : Sv} (hr : Reach k.2.1 k.2.2 (needF k.1) y) (v : Nat) (hv : v = if y.fog then 1 else 0) (ws : List Int) (hws : ws = [(v : Int)]) :
    (ob (implf31a KK (stnOf (0, 0) k.1 k.2.1 k.2.2 y) waitB) fun y14 => (bif y14.1 != (0 : Int) then (ob (implf21a KK y14.2) fun y15 => (ob (implf19 KK y15) fun y16 => (bif y16.2.toList == (ByteArray.mk #[]).toList then (bif (y16.1.length : Int) == (100 : Int) then (ob (implf27 KK) fun y17 => some (y17)) else some (false)) else some (false)))) else (ob (implf61 KK k.2.2 y.state) fun y18 => (ob (implf62 KK (y18.1.1, y18.1.2) ws) fun y19 => (bif y18.2 != (0 : Int) then some (false) else (bif y19.2 != (0 : Int) then some (false) else (bif (y19.1.length : Int) != (2 : Int) then some (false) else (ob (implf56a KK y14.2) fun y20 => (bif y20 != IntKind.i64.wrap (y.hour + (1 : Int)) then some (false) else (if (0 : Int) ≤ (1 : Int) ∧ (1 : Int) < (y19.1.length : Int) then (ob (implf38a KK y14.2) fun y21 => (ob (implf59a KK y14.2) fun y22 => (bif (y19.1.getD (1) ((0 : Int)) != (0 : Int)) == (IntKind.i64.wrap (y21 + y22) == IntKind.i64.wrap (IntKind.i64.wrap (y.sounded + y.missed) + (1 : Int))) then (ob (implf27 KK) fun y23 => some (y23)) else some (false)))) else none)))))))))) = some true := by
  have K := kit_of he
  obtain ⟨h1, h2⟩ := reach_text hr
  have hd := do_wait k.2.1 k.2.2 (needF k.1) y
  rw [do31 K 0 hr waitB (by decide), sane]
  simp only [obS]
  by_cases hlen : 100 ≤ y.orders.length
  · rw [hd, if_pos hlen]
    show ob (implf21a KK (stnOf (0, 0) k.1 k.2.1 k.2.2 y)) _ = _
    rw [book21 0 hr]
    simp only [obS]
    rw [(read_book h1 h2).1]
    simp only [obS, beqB, decide_true, cond_true]
    rw [show y.orders.length = 100 by omega]
    rfl
  · rw [if_neg hlen] at hd
    have hi := reach_inv K hr
    have f := hi.fine
    have hy' := reach_do hr waitB
    have hi' := (reach_inv K hy').fine
    obtain ⟨-, n2⟩ := reach_text hy'
    obtain ⟨c, e61, hc⟩ := from61 K.hb (st := y.state.toNat) (by have := f.st0; have := f.st1; omega)
    rw [Int.toNat_of_nonneg f.st0] at e61
    obtain ⟨z, e62⟩ := run62 K.hb (st := y.state.toNat) (by have := f.st0; have := f.st1; omega) hc v (by rw [hv]; cases y.fog <;> simp)
    have hnx : ((k.2.2.1.getD y.state.toNat (List.replicate 2 0)).getD v 0) = nextF k.2.2 y := by
      unfold nextF
      rw [hv]
    rw [hnx] at e62
    obtain ⟨q1, q2⟩ := pass_says k.2.2 (needF k.1) y
    have g0 := hi'.s0; have g1 := hi'.m0; have g2 := hi'.sm; have g3 := hi'.h1
    have t0 := f.s0; have t1 := f.m0; have t2 := f.sm; have t3 := f.h1; have t4 := f.h0
    rw [hd] at g0 g1 g2 g3 n2 ⊢
    have g0 : 0 ≤ (passF k.2.2 (needF k.1) y).sounded := g0
    have g1 : 0 ≤ (passF k.2.2 (needF k.1) y).missed := g1
    rw [e61]
    simp only [obS, peta]
    rw [hws, e62]
    show (bif ((passF k.2.2 (needF k.1) y).hour != IntKind.i64.wrap (y.hour + 1)) then some false else (if (0 : Int) ≤ 1 ∧ (1 : Int) < 2 then (bif (k.2.2.2.getD (nextF k.2.2 y).toNat 0 != 0) == (IntKind.i64.wrap ((passF k.2.2 (needF k.1) y).sounded + (passF k.2.2 (needF k.1) y).missed) == IntKind.i64.wrap (IntKind.i64.wrap (y.sounded + y.missed) + 1)) then some true else some false) else none)) = _
    have hb2 : (passF k.2.2 (needF k.1) y).sounded + (passF k.2.2 (needF k.1) y).missed ≤ y.sounded + y.missed + 1 := by
      rw [q2]; split <;> omega
    rw [q1, wrapI (n := y.hour + 1) (by omega) (by omega), ibne, decide_eq_true rfl, if_pos (by omega), wrapI (n := y.sounded + y.missed) (by omega) (by omega), wrapI (n := (passF k.2.2 (needF k.1) y).sounded + _) (by omega) (by omega), wrapI (n := y.sounded + y.missed + 1) (by omega) (by omega), q2]
    by_cases h0 : k.2.2.2.getD (nextF k.2.2 y).toNat 0 = 0
    · rw [if_pos h0, h0]
      have : (y.sounded + y.missed + 0 == y.sounded + y.missed + 1) = false := beq_eq_false_iff_ne.2 (by omega)
      rw [this]; rfl
    · rw [if_neg h0]
      have e1 : (y.sounded + y.missed + 1 == y.sounded + y.missed + 1) = true := by simp
      have e2 : (k.2.2.2.getD (nextF k.2.2 y).toNat 0 != 0) = true := by simpa using h0
      rw [e1, e2]; rfl
theorem coreStationHours (k : KitT) (l : List ByteArray) (hl : l.length ≤ 9223372036854775807) : ∃ K, implf16 K k l = some true := by
  by_cases hK : isLarge k
  · exact ⟨0 + 60, large_front 0 hK⟩
  · by_cases hL : isLong l
    · refine ⟨(l.length + 1000) + 60, ?_⟩
      unfold implf16
      rw [large25, decide_eq_false hK, long26 _ l hl (by omega), decide_eq_true hL, saneK]
      rfl
    · refine ⟨KK, ?_⟩
      obtain ⟨hn, hsz⟩ := notLong hL
      unfold implf16
      rw [large25, decide_eq_false hK, long26 KK l hl (by show l.length < 1000000; omega), decide_eq_false hL]
      simp only [obS, cond_false]
      rw [s50a hK, s50b hK, s43a hK, s43b hK]
      by_cases he : errOf k = 0
      · repeat rw [if_pos he]
        show ob (implf30 KK l) _ = _
        rw [few30 (by omega)]
        obtain ⟨y, z, e, hr⟩ := loop16 (kit_of he) k (l.take 40) (few_size hsz 40) (by simp; omega) _ 0 KK zeroS rfl (Nat.zero_le _) (by simp [KK]; omega) (reach_zero _ _ _)
        have e : impll16_0 KK KK (l.take 40) k (stnOf (0, 0) k.1 k.2.1 k.2.2 zeroS) 0 = _ := e
        simp only [obS]
        rw [e]
        simp only [obS]
        rw [state57, hour56, sounded38, missed59, fog60]
        simp only [obS]
        cases hf : y.fog with
        | true => exact hour_tail he hr 1 (by rw [hf]; rfl) _ rfl
        | false => exact hour_tail he hr 0 (by rw [hf]; rfl) _ rfl
      · repeat rw [if_neg he]
        simp only [oelS, ibeq, decide_eq_false he, cond_false]
        rw [failed29 hK he]; rfl
theorem pureStationHours (x : (insOf tl [45, 26]).ty.den) (hw : wfAll tl [45, 26] x) : ∃ k, implf16 k x.1 x.2.1 = some true := coreStationHours x.1 x.2.1 hw.2.1.1
end Go.Proofs.YtbpjodikknbcoaaGreatDoor
