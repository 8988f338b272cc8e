/- The station that is made again from its book, and from its first lines. -/
import Derived.Test.YtbpjodikknbcoaaGreatDoorMd5
import Derived.Test.YtbpjodikknbcoaaGreatDoorFStationReplays
set_option maxRecDepth 100000
set_option linter.unusedVariables false
set_option linter.unusedSimpArgs false
namespace Go.Proofs.YtbpjodikknbcoaaGreatDoor
open Go Go.Pv
theorem loop51 {t w : List Int} {b : Box} (K : RKit t w b) (l : List ByteArray) (hl : ∀ o ∈ l, o.size ≤ 400) (hn : l.length ≤ 1000) : ∀ (d j k : Nat) (x : Sv), l.length - j = d → j ≤ l.length → d < k → Reach w b (needF t) x →
    ∃ y z, impll51_0 KK k (stnOf (0, 0) t w b x) (refOf w b (needF t) x) l (j : Int) = some (.inl (stnOf (0, 0) t w b y, refOf w b (needF t) y, z)) ∧ Reach w b (needF t) y
  | d, j, 0, _, _, _, h, _ => by omega
  | d, j, k + 1, x, hd, hj, hk, hx => by
    show ∃ y z, implb51_0 KK (impll51_0 KK k) (stnOf (0, 0) t w b x) (refOf w b (needF t) x) l (j : Int) = some (.inl (stnOf (0, 0) t w b y, refOf w b (needF t) y, z)) ∧ _
    unfold implb51_0
    rw [cdec]
    simp only [peta]
    by_cases h : j < l.length
    · have ho := hl _ (getD_mem ByteArray.empty h)
      rw [if_pos (by omega), if_pos (by omega), Int.toNat_natCast, do31 K 0 hx _ (by omega), do40' K hx _ (by omega)]
      simp only [obS]
      rw [if_pos (by omega)]
      have hr := reach_do hx (l.getD j ByteArray.empty)
      rw [ibne, decide_eq_true rfl]
      simp only [obS, Bool.not_true, cond_false]
      rw [wrapS (by omega)]
      exact loop51 K l hl hn (d - 1) (j + 1) k _ (by omega) (by omega) (by omega) hr
    · rw [if_neg (by omega)]
      exact ⟨x, _, rfl, hx⟩
theorem all51 {t w : List Int} {b : Box} (K : RKit t w b) (l : List ByteArray) (hl : ∀ o ∈ l, o.size ≤ 400) (hn : l.length ≤ 1000) {x : Sv} (hx : Reach w b (needF t) x) :
    ∃ y, implf51 KK (stnOf (0, 0) t w b x) (refOf w b (needF t) x) l = some (true, stnOf (0, 0) t w b y, refOf w b (needF t) y) ∧ Reach w b (needF t) y := by
  obtain ⟨y, z, e, hr⟩ := loop51 K l hl hn _ 0 KK x rfl (Nat.zero_le _) (by show l.length - 0 < 1000000; omega) hx
  refine ⟨y, ?_, hr⟩
  unfold implf51
  simp only [peta]
  have e : impll51_0 KK KK (stnOf (0, 0) t w b x) (refOf w b (needF t) x) l 0 = _ := e
  rw [e]; rfl
theorem coreStationReplays (k : KitT) (l : List ByteArray) (n : Int) (hl : l.length ≤ 9223372036854775807) : ∃ K, implf12 K k l n = some true := by
  by_cases hK : isLarge k
  · exact ⟨0 + 60, large_front 0 hK⟩
  · by_cases hL : isLong l
    · refine ⟨(l.length + 1000) + 60, ?_⟩
      unfold implf12
      rw [large25, decide_eq_false hK, long26 _ l hl (by omega), decide_eq_true hL, saneK]
      rfl
    · refine ⟨KK, ?_⟩
      obtain ⟨hn, hsz⟩ := notLong hL
      unfold implf12
      rw [large25, decide_eq_false hK, long26 KK l hl (by show l.length < 1000000; omega), decide_eq_false hL]
      simp only [obS, cond_false, peta]
      rw [s50a hK, s50b hK, s43a hK, s43b hK]
      by_cases he : errOf k = 0
      · repeat rw [if_pos he]
        show ob (implf30 KK l) _ = _
        rw [few30 (by omega)]
        obtain ⟨x, e, hr⟩ := all51 (kit_of he) (l.take 40) (few_size hsz 40) (by simp; omega) (reach_zero _ _ _)
        obtain ⟨h1, h2⟩ := reach_text hr
        simp only [obS]
        rw [e]
        simp only [obS, Bool.not_true, cond_false]
        rw [book21 0 hr]
        simp only [obS]
        obtain ⟨e1, e2⟩ := (rep24 hK (read_book h1 h2).1 h1 h2).2 x (rep_reach he hr)
        rw [e1, e2]
        simp only [oelN, obS]
        show (bif (x.orders.length : Int) != (x.orders.length : Int) then _ else _) = _
        rw [ibne, decide_eq_true rfl, equal41 0 hr]
        simp only [Bool.not_true, cond_false, obS]
        obtain ⟨u0, c, hc, hcn⟩ := mod_cut x.orders.length (by omega) n
        show (if IntKind.u64.wrap (IntKind.i64.wrap ((x.orders.length : Int) + 1)) = 0 then none else
          (if 0 ≤ IntKind.i64.wrap ((IntKind.u64.wrap n).tmod (IntKind.u64.wrap (IntKind.i64.wrap ((x.orders.length : Int) + 1)))) ∧ IntKind.i64.wrap ((IntKind.u64.wrap n).tmod (IntKind.u64.wrap (IntKind.i64.wrap ((x.orders.length : Int) + 1)))) ≤ IntKind.i64.wrap ((IntKind.u64.wrap n).tmod (IntKind.u64.wrap (IntKind.i64.wrap ((x.orders.length : Int) + 1)))) ∧ IntKind.i64.wrap ((IntKind.u64.wrap n).tmod (IntKind.u64.wrap (IntKind.i64.wrap ((x.orders.length : Int) + 1)))) ≤ (x.orders.length : Int)
            then ob (implf53 KK (List.take (IntKind.i64.wrap ((IntKind.u64.wrap n).tmod (IntKind.u64.wrap (IntKind.i64.wrap ((x.orders.length : Int) + 1))))).toNat x.orders)) _ else none)) = _
        rw [if_neg u0, hc, if_pos (by omega), Int.toNat_natCast]
        obtain ⟨y, hy, hyo, -⟩ := reach_prefix hr c hcn
        obtain ⟨g1, g2⟩ := reach_text hy
        rw [← hyo, write53' g1 (by omega)]
        simp only [obS]
        obtain ⟨b1, b2⟩ := (rep24 hK (read_book g1 g2).1 g1 g2).2 y (rep_reach he hy)
        obtain ⟨d1, d2⟩ := (rep54 hK (read_book g1 g2).2 g1 g2).2 y (rep_reach he hy)
        rw [b1, b2, d1, d2]
        simp only [oelN, obS]
        have hlen : (y.orders.length : Int) = (c : Int) := by
          rw [hyo, List.length_take]; omega
        show (bif (y.orders.length : Int) == IntKind.i64.wrap ((IntKind.u64.wrap n).tmod (IntKind.u64.wrap (IntKind.i64.wrap ((x.orders.length : Int) + 1)))) then _ else _) = _
        rw [hc, hlen, ibeq, decide_eq_true rfl, equal41 0 hy, sane]
        rfl
      · repeat rw [if_neg he]
        simp only [oelS, ibeq, decide_eq_false he, cond_false]
        rw [failed29 hK he]; rfl
theorem pureStationReplays (x : (insOf tl [45, 26, 3]).ty.den) (hw : wfAll tl [45, 26, 3] x) : ∃ k, implf12 k x.1 x.2.1 x.2.2.1 = some true := coreStationReplays x.1 x.2.1 x.2.2.1 hw.2.1.1
end Go.Proofs.YtbpjodikknbcoaaGreatDoor
