/- The mathematics of stations, part 3. -/
import Derived.Test.YtbpjodikknbcoaaGreatDoorMs2
import Derived.Lib.IndexBytes
import Derived.Lib.ItoaNum
import Derived.Lib.AtoiAll
import Derived.Lib.AtoiTie
import Derived.KernelRfl
import Derived.Lib.AtoiAllCases
set_option maxRecDepth 1000000
set_option linter.unusedVariables false
set_option linter.unusedSimpArgs false
namespace Go.Proofs.YtbpjodikknbcoaaGreatDoor
open Go Go.Pv
abbrev wFog : ByteArray := ByteArray.mk #[(102 : UInt8), (111 : UInt8), (103 : UInt8)]
abbrev wClear : ByteArray := ByteArray.mk #[(99 : UInt8), (108 : UInt8), (101 : UInt8), (97 : UInt8), (114 : UInt8)]
abbrev wPump : ByteArray := ByteArray.mk #[(112 : UInt8), (117 : UInt8), (109 : UInt8), (112 : UInt8)]
abbrev wWait : ByteArray := ByteArray.mk #[(119 : UInt8), (97 : UInt8), (105 : UInt8), (116 : UInt8)]
abbrev wStock : ByteArray := ByteArray.mk #[(115 : UInt8), (116 : UInt8), (111 : UInt8), (99 : UInt8), (107 : UInt8)]
abbrev wFire : ByteArray := ByteArray.mk #[(102 : UInt8), (105 : UInt8), (114 : UInt8), (101 : UInt8)]
abbrev wSet : ByteArray := ByteArray.mk #[(115 : UInt8), (101 : UInt8), (116 : UInt8)]
/-- The kinds of orders, and whether they have a number. -/
def kindF (w : ByteArray) : Option (Int × Bool) :=
  if w = wFog then some (0, false) else if w = wClear then some (1, false) else if w = wPump then some (2, true) else if w = wWait then some (3, true)
  else if w = wStock then some (4, true) else if w = wFire then some (5, true) else if w = wSet then some (6, true) else none
theorem mget_kind (w : ByteArray) : mget Ty.str ((Ty.int IntKind.i64).pr Ty.bool) [(wFog, (0 : Int), false), (wClear, (1 : Int), false), (wPump, (2 : Int), true), (wWait, (3 : Int), true), (wStock, (4 : Int), true), (wFire, (5 : Int), true), (wSet, (6 : Int), true)] w = kindF w := by
  have hb : ∀ a b : ByteArray, Ty.beq .str a b = decide (a = b) := fun a b => by
    show (a.data == b.data) = _
    by_cases h : a = b
    · subst h; simp
    · rw [decide_eq_false h]; exact beq_eq_false_iff_ne.2 (fun e => h (ByteArray.ext e))
  unfold kindF
  simp only [mget, hb]
  by_cases h1 : w = wFog
  · simp only [h1, decide_true, cond_true, if_true]
  · by_cases h2 : w = wClear
    · simp only [h1, h2, decide_true, decide_false, cond_true, cond_false, if_true, if_false]; rfl
    · simp only [h1, h2, decide_false, cond_false, if_false]
      by_cases h3 : w = wPump
      · simp only [h3, decide_true, cond_true, if_true]
      · simp only [h3, decide_false, cond_false, if_false]
        by_cases h4 : w = wWait
        · simp only [h4, decide_true, cond_true, if_true]
        · simp only [h4, decide_false, cond_false, if_false]
          by_cases h5 : w = wStock
          · simp only [h5, decide_true, cond_true, if_true]
          · simp only [h5, decide_false, cond_false, if_false]
            by_cases h6 : w = wFire
            · simp only [h6, decide_true, cond_true, if_true]
            · simp only [h6, decide_false, cond_false, if_false]
              by_cases h7 : w = wSet
              · simp only [h7, decide_true, cond_true, if_true]
              · simp only [h7, decide_false, cond_false, if_false]

/-- An order that was read: its kind and its number. -/
noncomputable def pF (l : List UInt8) (b n : Nat) : Option (Int × Int) :=
  match kindF ⟨(l.take b).toArray⟩ with
  | none => none
  | some (k, w) => if 40 < n ∨ decide (b < l.length) ≠ w then none else if w = false then some (k, 0) else (numF (l.drop (b + 1))).map fun n : Nat => (k, (n : Int))
noncomputable def parseF (x : ByteArray) : Option (Int × Int) := pF (by_ x) (fi 32 (by_ x)) x.size

theorem kind_pos {x : ByteArray} {k : Int} {w : Bool} (h : kindF x = some (k, w)) : 0 < x.size := by
  unfold kindF at h
  repeat (split at h; · rename_i e; rw [e]; decide)
  cases h

noncomputable def p102 (m : Option (Int × Bool)) (x rest : ByteArray) (more : Bool) : Option ((Int × Int) × Bool) :=
  bif !m.isSome then some ((((0 : Int), (0 : Int)), false)) else (bif decide ((x.size : Int) > (40 : Int)) then some ((((0 : Int), (0 : Int)), false)) else (bif !more == (m.getD ((0 : Int), false)).2 then some ((((0 : Int), (0 : Int)), false)) else (bif !more then some (((m.getD ((0 : Int), false)).1, (0 : Int)), true) else (ob (implf136 KK rest) fun y2 => (bif !decide (y2.2 = (0 : Int)) then some ((((0 : Int), (0 : Int)), false)) else (ob (implf85 KK y2.1) fun y3 => (bif !y3.toList == rest.toList then some ((((0 : Int), (0 : Int)), false)) else (bif decide (y2.1 < (0 : Int)) then some ((((0 : Int), (0 : Int)), false)) else (bif decide (y2.1 > (9999 : Int)) then some ((((0 : Int), (0 : Int)), false)) else some (((m.getD ((0 : Int), false)).1, y2.1), true))))))))))
theorem parse102 (x : ByteArray) (hx : x.size ≤ 9223372036854775807) : implf102 KK x = some (match parseF x with | none => ((0, 0), false) | some p => (p, true)) := by
  unfold implf102 parseF
  rw [cut64 x 32 hx]
  show p102 (mget Ty.str ((Ty.int IntKind.i64).pr Ty.bool) [(wFog, (0 : Int), false), (wClear, (1 : Int), false), (wPump, (2 : Int), true), (wWait, (3 : Int), true), (wStock, (4 : Int), true), (wFire, (5 : Int), true), (wSet, (6 : Int), true)] ⟨((by_ x).take (fi 32 (by_ x))).toArray⟩) x ⟨((by_ x).drop (fi 32 (by_ x) + 1)).toArray⟩ (decide (fi 32 (by_ x) < (by_ x).length)) = _
  rw [mget_kind]
  unfold p102
  obtain ⟨l, hl⟩ : ∃ l, l = by_ x := ⟨_, rfl⟩
  have hll : l.length = x.size := by rw [hl]; rfl
  rw [← hl]
  obtain ⟨b, hb⟩ : ∃ b, b = fi 32 l := ⟨_, rfl⟩
  rw [← hb]
  unfold pF
  cases hk : kindF ⟨(l.take b).toArray⟩ with
  | none => rfl
  | some p =>
    obtain ⟨k, w⟩ := p
    simp only [Option.isSome_some, Bool.not_true, cond_false, Option.getD_some, cdec]
    by_cases h40 : 40 < x.size
    · rw [if_pos (show (x.size : Int) > 40 by omega), if_pos (.inl h40)]
    · rw [if_neg (show ¬ (x.size : Int) > 40 by omega)]
      by_cases hm : decide (b < l.length) = w
      · have e1 : (decide (b < l.length) == w) = true := by rw [hm]; simp
        rw [if_neg (by rintro (h | h); exact h40 h; exact h hm)]
        rw [e1]
        simp only [Bool.not_true, cond_false]
        cases w with
        | false =>
          rw [hm]
          rfl
        | true =>
          rw [hm, if_neg (show ¬ true = false by decide)]
          simp only [Bool.not_true, cond_false]
          have hlen : (l.drop (b + 1)).length ≤ 100000 := by rw [List.length_drop]; omega
          have e136 : implf136 KK ⟨(l.drop (b + 1)).toArray⟩ = some (atoiR (l.drop (b + 1))) := by
            unfold implf136
            rw [if_pos (by rw [size_mk]; omega)]
          rw [e136]
          simp only [obS]
          cases hn : numF (l.drop (b + 1)) with
          | some n =>
            rw [Option.map_some]
            obtain ⟨a1, a2, a3⟩ := atoi_same hn
            have ea : atoiR (l.drop (b + 1)) = ((n : Int), 0) := by unfold atoiR; rw [a1]
            rw [ea]
            simp only [decide_true, Bool.not_true, cond_false]
            have e85 : implf85 KK (n : Int) = some ⟨(l.drop (b + 1)).toArray⟩ := by
              unfold implf85
              rw [if_pos ⟨by omega, by omega⟩, a2]
            rw [e85]
            simp only [obS, beqB, decide_true, Bool.not_true, cond_false]
            rw [if_neg (by omega), if_neg (by omega)]
          | none =>
            rw [Option.map_none]
            have hno : ¬ ∃ n : Int, Lib.atoiAll (l.drop (b + 1)) = .ok n ∧ Lib.itoa n = l.drop (b + 1) ∧ 0 ≤ n ∧ n ≤ 9999 := by
              rw [atoi_numF, hn]; simp
            by_cases h0 : (atoiR (l.drop (b + 1))).2 = 0
            · have hok : ∃ v, Lib.atoiAll (l.drop (b + 1)) = .ok v ∧ atoiR (l.drop (b + 1)) = (v, 0) := by
                unfold atoiR at h0 ⊢
                split at h0
                · rename_i v e; exact ⟨v, e, rfl⟩
                · cases h0
                · cases h0
              obtain ⟨v, hv, ea⟩ := hok
              rw [ea]
              simp only [decide_true, Bool.not_true, cond_false]
              have hvb := Lib.atoiAll_bounds hv
              unfold implf85
              rw [if_pos hvb]
              simp only [obS, beqB, cnot, cdec]
              by_cases hi : (⟨(Lib.itoa v).toArray⟩ : ByteArray) = ⟨(l.drop (b + 1)).toArray⟩
              · rw [if_pos hi]
                have hi2 : Lib.itoa v = l.drop (b + 1) := congrArg by_ hi
                by_cases h1 : v < 0
                · rw [if_pos h1]
                · rw [if_neg h1]
                  by_cases h2 : v > 9999
                  · rw [if_pos h2]
                  · exact absurd ⟨v, hv, hi2, by omega, by omega⟩ hno
              · rw [if_neg hi]
            · rw [decide_eq_false h0]; rfl
      · have e1 : (decide (b < l.length) == w) = false := beq_eq_false_iff_ne.2 hm
        rw [if_pos (.inr hm), e1]
        rfl

theorem has108 (w : ByteArray) : implf108 KK w = some (match kindF w with | none => (false, false) | some (_, n) => (n, true)) := by
  unfold implf108 kindF
  simp only [beqB, cdec]
  by_cases h1 : w = wFog
  · subst h1; rfl
  · by_cases h2 : w = wClear
    · subst h2; rfl
    · by_cases h3 : w = wPump
      · subst h3; rfl
      · by_cases h4 : w = wWait
        · subst h4; rfl
        · by_cases h5 : w = wStock
          · subst h5; rfl
          · by_cases h6 : w = wFire
            · subst h6; rfl
            · by_cases h7 : w = wSet
              · subst h7; rfl
              · rw [if_neg h1, if_neg h2, if_neg h3, if_neg h4, if_neg h5, if_neg h6, if_neg h7]
                rw [if_neg h1, if_neg h2, if_neg h3, if_neg h4, if_neg h5, if_neg h6, if_neg h7]
theorem valF_lt : ∀ (l : List UInt8), (∀ c ∈ l, isDig c = true) → valF l < 10 ^ l.length := by
  intro l
  induction hn : l.length generalizing l with
  | zero =>
    intro _
    rw [List.length_eq_zero_iff.1 hn]; decide
  | succ n ih =>
    intro hd
    rcases List.eq_nil_or_concat l with rfl | ⟨r, c, rfl⟩
    · cases hn
    · rw [List.concat_eq_append] at hn hd ⊢
      have hr : r.length = n := by simpa using hn
      have := ih r hr (fun x hx => hd x (by simp [hx]))
      have hc := hd c (by simp)
      simp only [isDig, Bool.and_eq_true, decide_eq_true_eq] at hc
      rw [valF_snoc, Nat.pow_succ]
      omega
theorem loop109 (t : ByteArray) (ht : t.size ≤ 4) : ∀ (d j k : Nat), t.size - j = d → j ≤ t.size → d < k → (∀ c ∈ (by_ t).take j, isDig c = true) →
    impll109_0 KK k t (valF ((by_ t).take j) : Int) (j : Int) = some (if (by_ t).all isDig then .inl ((valF (by_ t) : Int), (t.size : Int), ()) else .inr (0, false, ()))
  | d, j, 0, _, _, h, _ => by omega
  | d, j, k + 1, hd, hj, hk, hall => by
    show implb109_0 KK (impll109_0 KK k) t _ _ = _
    unfold implb109_0
    rw [cdec]
    by_cases h : j < t.size
    · rw [if_pos (by omega), if_pos (by omega), bt_at h]
      obtain ⟨c, hc⟩ : ∃ c, c = (by_ t).getD j 0 := ⟨_, rfl⟩
      have htk := take_getD (w := by_ t) (j := j) 0 (by rw [by_len]; exact h)
      have hmem : c ∈ by_ t := by rw [hc]; exact getD_mem 0 (by rw [by_len]; exact h)
      rw [← hc] at htk ⊢
      have hb := valF_lt _ hall
      have hl : ((by_ t).take j).length ≤ 4 := by rw [List.length_take, by_len]; omega
      have hb4 : valF ((by_ t).take j) < 10000 := Nat.lt_of_lt_of_le hb (Nat.le_trans (Nat.pow_le_pow_right (by decide) hl) (by decide))
      have hcl : c.toNat < 256 := c.toNat_lt
      rw [cdec]
      by_cases h1 : ((c.toNat : Nat) : Int) < 48
      · rw [if_pos h1]
        have : ¬ (by_ t).all isDig = true := by
          intro e
          have := List.all_eq_true.1 e c hmem
          simp only [isDig, Bool.and_eq_true, decide_eq_true_eq] at this
          omega
        rw [if_neg this]
      · rw [if_neg h1, if_pos (by omega), cdec]
        by_cases h2 : ((c.toNat : Nat) : Int) > 57
        · rw [if_pos h2]
          have : ¬ (by_ t).all isDig = true := by
            intro e
            have := List.all_eq_true.1 e c hmem
            simp only [isDig, Bool.and_eq_true, decide_eq_true_eq] at this
            omega
          rw [if_neg this]
        · rw [if_neg h2, if_pos (by omega)]
          have e1 : IntKind.u8.wrap (((c.toNat : Nat) : Int) - 48) = ((c.toNat - 48 : Nat) : Int) := by
            rw [IntWalk.u8_in _ ⟨by omega, by omega⟩]; omega
          rw [e1, wrapI (n := ((c.toNat - 48 : Nat) : Int)) (by omega) (by omega), wrapI (n := 10 * (valF ((by_ t).take j) : Int)) (by omega) (by omega), wrapI (by omega) (by omega), wrapS (by omega)]
          have e2 : 10 * (valF ((by_ t).take j) : Int) + ((c.toNat - 48 : Nat) : Int) = (valF ((by_ t).take (j + 1)) : Int) := by
            rw [htk, valF_snoc]; omega
          rw [e2]
          refine loop109 t ht (d - 1) (j + 1) k (by omega) (by omega) (by omega) ?_
          intro x hx
          rw [htk, List.mem_append, List.mem_singleton] at hx
          rcases hx with hx | hx
          · exact hall x hx
          · subst hx
            simp only [isDig, Bool.and_eq_true, decide_eq_true_eq]
            omega
    · have hj' : j = t.size := by omega
      subst hj'
      have htake : (by_ t).take t.size = by_ t := List.take_of_length_le (Nat.le_refl _)
      rw [htake] at hall ⊢
      rw [if_neg (by omega), if_pos (List.all_eq_true.2 hall)]
theorem number109 (t : ByteArray) (ht : t.size ≤ 100000) : implf109 KK t = some (match numF (by_ t) with | none => (0, false) | some n => ((n : Int), true)) := by
  unfold implf109 numF
  rw [cdec, by_len]
  by_cases h1 : t.size < 1
  · rw [if_pos (by omega), if_pos (.inl h1)]
  · rw [if_neg (by omega), cdec]
    by_cases h2 : 4 < t.size
    · rw [if_pos (by omega), if_pos (.inr (.inl h2))]
    · rw [if_neg (by omega), if_pos (by omega)]
      have hb := bt_at (a := t) (i := 0) (by omega)
      have hb : bt t (0 : Int) = (((by_ t).getD 0 0).toNat : Int) := hb
      have hh : (by_ t).head? = some 48 ↔ bt t (0 : Int) = 48 := by
        rw [hb]
        cases hl : by_ t with
        | nil => have := by_len t; rw [hl] at this; simp at this; omega
        | cons c r =>
          simp only [List.head?_cons, Option.some.injEq, List.getD_cons_zero]
          constructor
          · intro e; rw [e]; rfl
          · intro e; exact UInt8.toNat.inj (by show c.toNat = 48; omega)
      have hloop := loop109 t (by omega) _ 0 KK rfl (Nat.zero_le _) (by show t.size - 0 < 1000000; omega) (by simp)
      have hloop : impll109_0 KK KK t 0 0 = some (if (by_ t).all isDig then .inl ((valF (by_ t) : Int), (t.size : Int), ()) else .inr (0, false, ())) := hloop
      rw [ibeq, cdec]
      by_cases h3 : bt t (0 : Int) = 48
      · rw [if_pos h3, cdec]
        by_cases h4 : 1 < t.size
        · rw [if_pos (by omega), if_pos (.inr (.inr ⟨hh.2 h3, h4⟩))]
        · rw [if_neg (by omega), if_neg (by rintro (h | h | h); exact h1 h; exact h2 h; exact h4 h.2), hloop]
          by_cases h5 : (by_ t).all isDig = true
          · rw [if_pos h5, if_pos h5]; rfl
          · rw [if_neg h5, if_neg h5]; rfl
      · rw [if_neg h3, if_neg (by rintro (h | h | h); exact h1 h; exact h2 h; exact h3 (hh.1 h.1)), hloop]
        by_cases h5 : (by_ t).all isDig = true
        · rw [if_pos h5, if_pos h5]; rfl
        · rw [if_neg h5, if_neg h5]; rfl
theorem loop79 (x : ByteArray) (z : ByteArray × Int) (hx : x.size ≤ 100000) : impll79_0 KK KK x z 0 = some ((fi 32 (by_ x) : Int), ()) := by
  have hle : fi 32 (by_ x) ≤ x.size := fi_le _ _
  have key := upto (fun k (p : Nat) => impll79_0 KK k x z (p : Int)) (fun j => j) (fi 32 (by_ x)) ((fi 32 (by_ x) : Int), ())
    (fun k j hj => by
      show implb79_0 KK (impll79_0 KK k) x z _ = _
      unfold implb79_0
      have hne : bt x (j : Int) ≠ 32 := by
        rw [bt_at (by omega)]; intro e; apply fi_ne 32 (by_ x) j hj
        have e : ((by_ x).getD j 0).toNat = 32 := by omega
        exact UInt8.toNat.inj e
      rw [cdec, if_pos (by omega), if_pos (by omega), ibne, cnot, decide_eq_false hne, wrapS (by omega)]
      rfl)
    (fun k => by
      show implb79_0 KK (impll79_0 KK k) x z _ = _
      unfold implb79_0
      by_cases h : fi 32 (by_ x) < x.size
      · have he : bt x (fi 32 (by_ x) : Int) = 32 := by rw [bt_at h, fi_at 32 (by_ x) h]; rfl
        rw [cdec, if_pos (by omega), if_pos (by omega), ibne, cnot, decide_eq_true he]
        rfl
      · rw [cdec, if_neg (by omega)])
  exact key KK 0 (by show _ - 0 < 1000000; omega) (Nat.zero_le _)
/-- The word of an order. -/
def headF (x : ByteArray) : ByteArray := ⟨((by_ x).take (fi 32 (by_ x))).toArray⟩
theorem parse79 (x : ByteArray) (hx : x.size ≤ 100000) : implf79 KK x = some (match parseF x with | none => ((ByteArray.empty, 0), false) | some (k, n) => ((headF x, n), true)) := by
  unfold implf79
  have hp : parseF x = pF (by_ x) (fi 32 (by_ x)) x.size := rfl
  rw [hp]
  rw [cdec]
  by_cases h1 : x.size < 1
  · rw [if_pos (by omega)]
    have e : by_ x = [] := List.length_eq_zero_iff.1 (by rw [by_len]; omega)
    unfold pF
    rw [e]
    rfl
  · rw [if_neg (by omega), cdec]
    by_cases h2 : 40 < x.size
    · rw [if_pos (by omega)]
      have e : pF (by_ x) (fi 32 (by_ x)) x.size = none := by
        unfold pF
        split
        · rfl
        · exact if_pos (Or.inl h2)
      rw [e]
    · rw [if_neg (by omega), loop79 x _ hx]
      have hle : fi 32 (by_ x) ≤ x.size := fi_le _ _
      simp only [obS]
      rw [if_pos (by omega)]
      have hhead : x.extract 0 ((fi 32 (by_ x) : Int)).toNat = headF x := by
        apply by_ext
        rw [by_ext_cut, Int.toNat_natCast, List.drop_zero]
        rfl
      rw [hhead, has108]
      have hpf : pF (by_ x) (fi 32 (by_ x)) x.size = match kindF (headF x) with
          | none => none
          | some (k, w) => if 40 < x.size ∨ decide (fi 32 (by_ x) < (by_ x).length) ≠ w then none else if w = false then some (k, 0) else (numF ((by_ x).drop (fi 32 (by_ x) + 1))).map fun n : Nat => (k, (n : Int)) := rfl
      rw [hpf]
      cases hk : kindF (headF x) with
      | none => rfl
      | some p =>
        obtain ⟨k, w⟩ := p
        simp only [obS, Bool.not_true, cond_false]
        rw [by_len]
        obtain ⟨N, hN⟩ : ∃ N, N = numF ((by_ x).drop (fi 32 (by_ x) + 1)) := ⟨_, rfl⟩
        rw [← hN]
        by_cases h3 : fi 32 (by_ x) < x.size
        · have e3 : ((fi 32 (by_ x) : Int) == (x.size : Int)) = false := beq_eq_false_iff_ne.2 (by omega)
          rw [e3, decide_eq_true h3]
          cases w with
          | false =>
            have hR : (if 40 < x.size ∨ true ≠ false then (none : Option (Int × Int)) else if false = false then some (k, 0) else N.map fun n : Nat => (k, (n : Int))) = none := if_pos (Or.inr (by decide))
            rw [hR]; rfl
          | true =>
            have hR : (if 40 < x.size ∨ true ≠ true then (none : Option (Int × Int)) else if true = false then some (k, 0) else N.map fun n : Nat => (k, (n : Int))) = N.map fun n : Nat => (k, (n : Int)) := by
              rw [if_neg (show ¬ (40 < x.size ∨ true ≠ true) by rintro (h | h); exact h2 h; exact h rfl), if_neg (show ¬ true = false by decide)]
            rw [hR]
            show (if (0 : Int) ≤ IntKind.i64.wrap ((fi 32 (by_ x) : Int) + 1) ∧ IntKind.i64.wrap ((fi 32 (by_ x) : Int) + 1) ≤ (x.size : Int) ∧ (x.size : Int) ≤ (x.size : Int) then _ else none) = _
            rw [wrapS (show fi 32 (by_ x) ≤ 1000000000 by omega), if_pos (show (0 : Int) ≤ ((fi 32 (by_ x) + 1 : Nat) : Int) ∧ ((fi 32 (by_ x) + 1 : Nat) : Int) ≤ (x.size : Int) ∧ (x.size : Int) ≤ (x.size : Int) by omega)]
            have hrest : by_ (x.extract ((fi 32 (by_ x) + 1 : Nat) : Int).toNat ((x.size : Int)).toNat) = (by_ x).drop (fi 32 (by_ x) + 1) := by
              rw [by_ext_cut, Int.toNat_natCast, Int.toNat_natCast, List.take_of_length_le (by rw [by_len]; exact Nat.le_refl _)]
            have hsz : (x.extract ((fi 32 (by_ x) + 1 : Nat) : Int).toNat ((x.size : Int)).toNat).size ≤ 100000 := by
              rw [← by_len, hrest, List.length_drop, by_len]; omega
            rw [number109 _ hsz, hrest, ← hN]
            cases N with
            | none => rfl
            | some n => rfl
        · have e3 : ((fi 32 (by_ x) : Int) == (x.size : Int)) = true := by
            have : (fi 32 (by_ x) : Int) = (x.size : Int) := by omega
            rw [this]; simp
          rw [e3, decide_eq_false h3]
          cases w with
          | true =>
            have hR : (if 40 < x.size ∨ false ≠ true then (none : Option (Int × Int)) else if true = false then some (k, 0) else N.map fun n : Nat => (k, (n : Int))) = none := if_pos (Or.inr (by decide))
            rw [hR]; rfl
          | false =>
            have hR : (if 40 < x.size ∨ false ≠ false then (none : Option (Int × Int)) else if false = false then some (k, 0) else N.map fun n : Nat => (k, (n : Int))) = some (k, 0) := by
              rw [if_neg (show ¬ (40 < x.size ∨ false ≠ false) by rintro (h | h); exact h2 h; exact h rfl)]; rfl
            rw [hR]; rfl
theorem within_eq (x a b : Int) : (bif decide (x ≥ a) then some (decide (x ≤ b)) else some false) = some (decide (a ≤ x ∧ x ≤ b)) := by
  rw [cdec]
  by_cases h : x ≥ a
  · rw [if_pos h]; congr 1; by_cases h2 : x ≤ b
    · rw [decide_eq_true h2, decide_eq_true ⟨h, h2⟩]
    · rw [decide_eq_false h2, decide_eq_false (fun e => h2 e.2)]
  · rw [if_neg h, decide_eq_false (fun e => h e.1)]
theorem w106 (x a b : Int) : implf106 KK x a b = some (decide (a ≤ x ∧ x ≤ b)) := within_eq x a b
theorem w141 (x a b : Int) : implf141 KK x a b = some (decide (a ≤ x ∧ x ≤ b)) := within_eq x a b
theorem w105 (x a b : Int) : implf105 KK x a b = some (decide (a ≤ x ∧ x ≤ b)) := within_eq x a b
theorem w113 (x a b : Int) : implf113 KK x a b = some (decide (a ≤ x ∧ x ≤ b)) := within_eq x a b
theorem w114 (x a b : Int) : implf114 KK x a b = some (decide (a ≤ x ∧ x ≤ b)) := within_eq x a b
theorem w116 (x a b : Int) : implf116 KK x a b = some (decide (a ≤ x ∧ x ≤ b)) := within_eq x a b

abbrev bitAt (t : List Int) (j : Nat) : Prop := t.getD j 0 = 0 ∨ t.getD j 0 = 1
open Classical in
noncomputable def vTone (t : List Int) : Int := if 1 ≤ t.length ∧ t.length ≤ 24 then (if ∀ i, 0 ≤ i → i < t.length → bitAt t i then 0 else 1) else 3
theorem loop144 (t : List Int) (ht : t.length ≤ 1000) : ∀ (d j k : Nat), t.length - j = d → j ≤ t.length → d < k → (∀ i, i < j → bitAt t i) →
    ∃ r, impll144a_0 KK k t () (t.length : Int) (j : Int) = some r ∧ (match r with | .inl _ => ∀ i, 0 ≤ i → i < t.length → bitAt t i | .inr i => 0 ≤ i ∧ ¬ ∀ i, 0 ≤ i → i < t.length → bitAt t i)
  | d, j, 0, _, _, h, _ => by omega
  | d, j, k + 1, hd, hj, hk, hall => by
    show ∃ r, implb144a_0 KK (impll144a_0 KK k) t () _ _ = some r ∧ _
    unfold implb144a_0
    rw [cdec]
    by_cases h : j < t.length
    · rw [if_pos (by omega), if_pos (by omega), Int.toNat_natCast]
      simp only [ibne, cnot, cdec]
      by_cases h0 : t.getD j 0 = 0
      · rw [if_pos h0, wrapS (by omega)]
        exact loop144 t ht (d - 1) (j + 1) k (by omega) (by omega) (by omega) (fun i hi => by
          rcases Nat.lt_succ_iff_lt_or_eq.1 hi with h2 | rfl
          · exact hall i h2
          · exact .inl h0)
      · rw [if_neg h0]
        by_cases h1 : t.getD j 0 = 1
        · rw [if_pos h1, wrapS (by omega)]
          exact loop144 t ht (d - 1) (j + 1) k (by omega) (by omega) (by omega) (fun i hi => by
            rcases Nat.lt_succ_iff_lt_or_eq.1 hi with h2 | rfl
            · exact hall i h2
            · exact .inr h1)
        · rw [if_neg h1]
          refine ⟨_, rfl, by omega, fun e => ?_⟩
          rcases e j (Nat.zero_le _) h with e | e
          · exact h0 e
          · exact h1 e
    · rw [if_neg (by omega)]
      exact ⟨_, rfl, fun i _ hi => hall i (by omega)⟩
theorem tone77 (t : List Int) (ht : t.length ≤ 1000) : implf77 KK t = some (vTone t) := by
  unfold implf77 vTone
  rw [w106]
  simp only [obS, cnot, cdec]
  by_cases h : 1 ≤ t.length ∧ t.length ≤ 24
  · rw [if_pos (show (1 : Int) ≤ t.length ∧ (t.length : Int) ≤ 24 by omega), if_pos h]
    obtain ⟨r, e, hr⟩ := loop144 t ht _ 0 KK rfl (Nat.zero_le _) (by show t.length - 0 < 1000000; omega) (fun i hi => by omega)
    have e : impll144a_0 KK KK t () (t.length : Int) 0 = some r := e
    unfold implf144a
    rw [e]
    cases r with
    | inl z =>
      rw [if_pos hr]; rfl
    | inr i =>
      obtain ⟨h0, h1⟩ := hr
      rw [if_neg h1]
      show (if i ≥ 0 then some (1 : Int) else some 0) = _
      rw [if_pos (show i ≥ 0 from h0)]
  · rw [if_neg (show ¬ ((1 : Int) ≤ t.length ∧ (t.length : Int) ≤ 24) by omega), if_neg h]
theorem tone112 (t : List Int) (ht : t.length ≤ 1000) : implf112 KK t = some (vTone t) := by
  unfold implf112 vTone
  rw [w141]
  simp only [obS, cnot, cdec]
  by_cases h : 1 ≤ t.length ∧ t.length ≤ 24
  · rw [if_pos (show (1 : Int) ≤ t.length ∧ (t.length : Int) ≤ 24 by omega), if_pos h]
    have key := uptoAll (fun k (p : Nat) => impll142_0 KK k t (p : Int)) (fun j => j) t.length (fun j => bitAt t j) (Sum.inl ((t.length : Int), ())) (Sum.inr false)
      (fun k j hj hp => by
        show implb142_0 KK (impll142_0 KK k) t _ = _
        unfold implb142_0
        have hp : (0 : Int) ≤ t.getD j 0 ∧ t.getD j 0 ≤ 1 := by rcases hp with e | e <;> rw [e] <;> decide
        rw [cdec, if_pos (by omega), if_pos (by omega), Int.toNat_natCast, w141]
        simp only [obS, cnot, cdec]
        rw [if_pos hp, wrapS (by omega)])
      (fun k j hj hp => by
        show implb142_0 KK (impll142_0 KK k) t _ = _
        unfold implb142_0
        have hp : ¬ ((0 : Int) ≤ t.getD j 0 ∧ t.getD j 0 ≤ 1) := by
          intro e; apply hp
          by_cases h0 : t.getD j 0 = 0
          · exact .inl h0
          · exact .inr (by omega)
        rw [cdec, if_pos (by omega), if_pos (by omega), Int.toNat_natCast, w141]
        simp only [obS, cnot, cdec]
        rw [if_neg hp])
      (fun k => by
        show implb142_0 KK (impll142_0 KK k) t _ = _
        unfold implb142_0
        rw [cdec, if_neg (by omega)])
    have key := key KK 0 (by show t.length - 0 < 1000000; omega) (Nat.zero_le _)
    have key : impll142_0 KK KK t 0 = _ := key
    unfold implf142
    rw [key]
    split
    · rfl
    · rfl
  · rw [if_neg (show ¬ ((1 : Int) ≤ t.length ∧ (t.length : Int) ≤ 24) by omega), if_neg h]

abbrev weightAt (w : List Int) (j : Nat) : Prop := (1 ≤ w.getD j 0 ∧ w.getD j 0 ≤ 30) ∧ (0 < j → w.getD (j - 1) 0 < w.getD j 0)
open Classical in
noncomputable def vWeights (w : List Int) : Int := if 1 ≤ w.length ∧ w.length ≤ 4 then (if ∀ i, 0 ≤ i → i < w.length → weightAt w i then 0 else 1) else 3
theorem wrapP {j : Nat} (h : 0 < j) (h2 : j ≤ 1000000000) : IntKind.i64.wrap ((j : Int) - 1) = ((j - 1 : Nat) : Int) := by
  rw [wrapI (by omega) (by omega)]; omega
theorem weights86 (w : List Int) (ht : w.length ≤ 1000) : implf86 KK w = some (vWeights w) := by
  unfold implf86 vWeights
  rw [w105]
  simp only [obS, cnot, cdec]
  by_cases h : 1 ≤ w.length ∧ w.length ≤ 4
  · rw [if_pos (show (1 : Int) ≤ w.length ∧ (w.length : Int) ≤ 4 by omega), if_pos h]
    have key := uptoAll (fun k (p : Nat) => impll86_0 KK k w w (w.length : Int) (p : Int)) (fun j => j) w.length (fun j => weightAt w j) (Sum.inl ((w.length : Int), ())) (Sum.inr (1 : Int))
      (fun k j hj hp => by
        show implb86_0 KK (impll86_0 KK k) w w _ _ = _
        unfold implb86_0
        rw [cdec, if_pos (by omega), if_pos (by omega), Int.toNat_natCast, w105]
        simp only [obS, cnot, cdec]
        rw [if_pos hp.1]
        by_cases h0 : 0 < j
        · rw [if_pos (show (j : Int) > 0 by omega), wrapP h0 (by omega), if_pos (by omega), Int.toNat_natCast, if_neg (by have := hp.2 h0; omega), wrapS (by omega)]
        · rw [if_neg (show ¬ (j : Int) > 0 by omega), wrapS (by omega)])
      (fun k j hj hp => by
        show implb86_0 KK (impll86_0 KK k) w w _ _ = _
        unfold implb86_0
        rw [cdec, if_pos (by omega), if_pos (by omega), Int.toNat_natCast, w105]
        simp only [obS, cnot, cdec]
        by_cases h1 : 1 ≤ w.getD j 0 ∧ w.getD j 0 ≤ 30
        · rw [if_pos h1]
          have h0 : 0 < j := Classical.byContradiction fun h0 => hp ⟨h1, fun e => absurd e h0⟩
          have h2 : w.getD j 0 ≤ w.getD (j - 1) 0 := Int.not_lt.1 fun h2 => hp ⟨h1, fun _ => h2⟩
          rw [if_pos (show (j : Int) > 0 by omega), wrapP h0 (by omega), if_pos (by omega), Int.toNat_natCast, if_pos h2]
        · rw [if_neg h1])
      (fun k => by
        show implb86_0 KK (impll86_0 KK k) w w _ _ = _
        unfold implb86_0
        rw [cdec, if_neg (by omega)])
    have key := key KK 0 (by show w.length - 0 < 1000000; omega) (Nat.zero_le _)
    have key : impll86_0 KK KK w w (w.length : Int) 0 = _ := key
    rw [key]
    split
    · rfl
    · rfl
  · rw [if_neg (show ¬ ((1 : Int) ≤ w.length ∧ (w.length : Int) ≤ 4) by omega), if_neg h]
theorem weights82 (w : List Int) (ht : w.length ≤ 1000) : implf82 KK w = some (vWeights w) := by
  unfold implf82 vWeights
  rw [w113]
  simp only [obS, cnot, cdec]
  by_cases h : 1 ≤ w.length ∧ w.length ≤ 4
  · rw [if_pos (show (1 : Int) ≤ w.length ∧ (w.length : Int) ≤ 4 by omega), if_pos h]
    have key := uptoAll (fun k (p : Nat) => impll82_0 KK k w (p : Int)) (fun j => j) w.length (fun j => weightAt w j) (Sum.inl ((w.length : Int), ())) (Sum.inr (1 : Int))
      (fun k j hj hp => by
        show implb82_0 KK (impll82_0 KK k) w _ = _
        unfold implb82_0
        rw [cdec, if_pos (by omega), if_pos (by omega), Int.toNat_natCast, w113]
        simp only [obS, cnot, cdec]
        rw [if_pos hp.1]
        by_cases h0 : 0 < j
        · rw [if_pos (show (j : Int) > 0 by omega), wrapP h0 (by omega), if_pos (by omega), if_pos (by omega), Int.toNat_natCast, if_neg (by have := hp.2 h0; omega), wrapS (by omega)]
        · rw [if_neg (show ¬ (j : Int) > 0 by omega), wrapS (by omega)])
      (fun k j hj hp => by
        show implb82_0 KK (impll82_0 KK k) w _ = _
        unfold implb82_0
        rw [cdec, if_pos (by omega), if_pos (by omega), Int.toNat_natCast, w113]
        simp only [obS, cnot, cdec]
        by_cases h1 : 1 ≤ w.getD j 0 ∧ w.getD j 0 ≤ 30
        · rw [if_pos h1]
          have h0 : 0 < j := Classical.byContradiction fun h0 => hp ⟨h1, fun e => absurd e h0⟩
          have h2 : w.getD (j - 1) 0 ≥ w.getD j 0 := Int.not_lt.1 fun h2 => hp ⟨h1, fun _ => h2⟩
          rw [if_pos (show (j : Int) > 0 by omega), wrapP h0 (by omega), if_pos (by omega), if_pos (by omega), Int.toNat_natCast, if_pos h2]
        · rw [if_neg h1])
      (fun k => by
        show implb82_0 KK (impll82_0 KK k) w _ = _
        unfold implb82_0
        rw [cdec, if_neg (by omega)])
    have key := key KK 0 (by show w.length - 0 < 1000000; omega) (Nat.zero_le _)
    have key : impll82_0 KK KK w 0 = _ := key
    rw [key]
    split
    · rfl
    · rfl
  · rw [if_neg (show ¬ ((1 : Int) ≤ w.length ∧ (w.length : Int) ≤ 4) by omega), if_neg h]

abbrev boxAt (b : List (List Int) × List Int) (n : Nat) (j : Nat) : Prop :=
  (0 ≤ (b.1.getD j (List.replicate 2 0)).getD 0 0 ∧ (b.1.getD j (List.replicate 2 0)).getD 0 0 ≤ (n : Int) - 1) ∧ (0 ≤ (b.1.getD j (List.replicate 2 0)).getD 1 0 ∧ (b.1.getD j (List.replicate 2 0)).getD 1 0 ≤ (n : Int) - 1) ∧ (0 ≤ b.2.getD j 0 ∧ b.2.getD j 0 ≤ 3)
open Classical in
noncomputable def vBox (b : List (List Int) × List Int) : Int :=
  if (1 ≤ b.1.length ∧ b.1.length ≤ 6) ∧ b.2.length = b.1.length then (if ∀ i, 0 ≤ i → i < b.1.length → boxAt b b.1.length i then 0 else 1) else 1
theorem box87 (b : List (List Int) × List Int) : implf87 KK b = some (vBox b) := by
  unfold implf87 vBox
  rw [w116]
  simp only [obS, ibne, cnot, cdec]
  by_cases h : 1 ≤ b.1.length ∧ b.1.length ≤ 6
  · rw [if_pos (show (1 : Int) ≤ b.1.length ∧ (b.1.length : Int) ≤ 6 by omega)]
    by_cases hl : b.2.length = b.1.length
    · rw [if_pos (show (b.2.length : Int) = b.1.length by omega), if_pos ⟨h, hl⟩]
      have key := uptoAll (fun k (p : Nat) => impll87_0 KK k b b.1 (b.1.length : Int) (p : Int)) (fun j => j) b.1.length (fun j => boxAt b b.1.length j) (Sum.inl ((b.1.length : Int), ())) (Sum.inr (1 : Int))
        (fun k j hj hp => by
          show implb87_0 KK (impll87_0 KK k) b b.1 _ _ = _
          unfold implb87_0
          rw [cdec, if_pos (by omega), if_pos (by omega), Int.toNat_natCast, wrapP (by omega) (by omega), w116, w116, w116]
          simp only [obS, cnot, cdec]
          obtain ⟨p1, p2, p3⟩ := hp
          rw [if_pos (by omega), if_pos (by omega), if_pos (by omega), if_pos (by omega), wrapS (by omega)])
        (fun k j hj hp => by
          show implb87_0 KK (impll87_0 KK k) b b.1 _ _ = _
          unfold implb87_0
          rw [cdec, if_pos (by omega), if_pos (by omega), Int.toNat_natCast, wrapP (by omega) (by omega), w116, w116, w116]
          simp only [obS, cnot, cdec]
          by_cases q1 : 0 ≤ (b.1.getD j (List.replicate 2 0)).getD 0 0 ∧ (b.1.getD j (List.replicate 2 0)).getD 0 0 ≤ (b.1.length : Int) - 1
          · rw [if_pos (by omega)]
            by_cases q2 : 0 ≤ (b.1.getD j (List.replicate 2 0)).getD 1 0 ∧ (b.1.getD j (List.replicate 2 0)).getD 1 0 ≤ (b.1.length : Int) - 1
            · rw [if_pos (by omega), if_pos (by omega), if_neg (fun q3 => hp ⟨q1, q2, q3⟩)]
            · rw [if_neg (by omega)]
          · rw [if_neg (by omega)])
        (fun k => by
          show implb87_0 KK (impll87_0 KK k) b b.1 _ _ = _
          unfold implb87_0
          rw [cdec, if_neg (by omega)])
      have key := key KK 0 (by show b.1.length - 0 < 1000000; omega) (Nat.zero_le _)
      have key : impll87_0 KK KK b b.1 (b.1.length : Int) 0 = _ := key
      rw [key]
      split
      · rfl
      · rfl
    · rw [if_neg (show ¬ (b.2.length : Int) = b.1.length by omega), if_neg (fun e => hl e.2)]
  · rw [if_neg (show ¬ ((1 : Int) ≤ b.1.length ∧ (b.1.length : Int) ≤ 6) by omega), if_neg (fun e => h e.1)]
theorem box83 (b : List (List Int) × List Int) : implf83 KK b = some (vBox b) := by
  unfold implf83 vBox
  rw [w114]
  simp only [obS, ibne, cnot, cdec]
  by_cases h : 1 ≤ b.2.length ∧ b.2.length ≤ 6
  · rw [if_pos (show (1 : Int) ≤ b.2.length ∧ (b.2.length : Int) ≤ 6 by omega)]
    by_cases hl : b.2.length = b.1.length
    · rw [if_pos (show (b.1.length : Int) = b.2.length by omega), if_pos ⟨by omega, hl⟩]
      have key := uptoAll (fun k (p : Nat) => impll83_0 KK k b (b.2.length : Int) (p : Int)) (fun j => j) b.1.length (fun j => boxAt b b.1.length j) (Sum.inl ((b.2.length : Int), ())) (Sum.inr (1 : Int))
        (fun k j hj hp => by
          show implb83_0 KK (impll83_0 KK k) b _ _ = _
          unfold implb83_0
          rw [cdec, if_pos (by omega), if_pos (by omega), Int.toNat_natCast, wrapP (by omega) (by omega), w114, w114, w114]
          simp only [obS, cnot, cdec]
          obtain ⟨p1, p2, p3⟩ := hp
          rw [if_pos (by omega), if_pos (by omega), if_pos (by omega), if_pos (by omega), if_pos (by omega), wrapS (by omega)])
        (fun k j hj hp => by
          show implb83_0 KK (impll83_0 KK k) b _ _ = _
          unfold implb83_0
          rw [cdec, if_pos (by omega), if_pos (by omega), Int.toNat_natCast, wrapP (by omega) (by omega), w114, w114, w114]
          simp only [obS, cnot, cdec]
          by_cases q3 : 0 ≤ b.2.getD j 0 ∧ b.2.getD j 0 ≤ 3
          · rw [if_pos q3, if_pos (by omega)]
            by_cases q1 : 0 ≤ (b.1.getD j (List.replicate 2 0)).getD 0 0 ∧ (b.1.getD j (List.replicate 2 0)).getD 0 0 ≤ (b.1.length : Int) - 1
            · rw [if_pos (by omega), if_pos (by omega), if_neg (fun q2 => hp ⟨q1, by omega, q3⟩)]
            · rw [if_neg (by omega)]
          · rw [if_neg q3])
        (fun k => by
          show implb83_0 KK (impll83_0 KK k) b _ _ = _
          unfold implb83_0
          rw [cdec, if_neg (by omega), hl])
      have key := key KK 0 (by show b.1.length - 0 < 1000000; omega) (Nat.zero_le _)
      have key : impll83_0 KK KK b (b.2.length : Int) 0 = _ := key
      rw [key]
      split
      · rfl
      · rfl
    · rw [if_neg (show ¬ (b.1.length : Int) = b.2.length by omega), if_neg (fun e => hl e.2)]
  · rw [if_neg (show ¬ ((1 : Int) ≤ b.2.length ∧ (b.2.length : Int) ≤ 6) by omega), if_neg (fun e => h (by omega))]
/-- How much air an hour of sounding takes. -/
def needF (t : List Int) : Int := t.foldl (· + ·) 0
theorem bits_of {t : List Int} (h : vTone t = 0) : (1 ≤ t.length ∧ t.length ≤ 24) ∧ ∀ i, i < t.length → bitAt t i := by
  unfold vTone at h
  split at h
  · rename_i h1
    split at h
    · rename_i h2; exact ⟨h1, fun i hi => h2 i (Nat.zero_le _) hi⟩
    · cases h
  · cases h
theorem need_rng {t : List Int} (h : ∀ i, i < t.length → bitAt t i) : ∀ j, j ≤ t.length → 0 ≤ (t.take j).foldl (· + ·) 0 ∧ (t.take j).foldl (· + ·) 0 ≤ (j : Int)
  | 0, _ => by simp
  | j + 1, hj => by
    have ih := need_rng h j (by omega)
    rw [take_getD 0 (show j < t.length by omega), List.foldl_append]
    show 0 ≤ (t.take j).foldl (· + ·) 0 + t.getD j 0 ∧ _
    have hb := h j (by omega)
    have : 0 ≤ t.getD j 0 ∧ t.getD j 0 ≤ 1 := by rcases hb with e | e <;> rw [e] <;> decide
    constructor
    · omega
    · show (t.take j).foldl (· + ·) 0 + t.getD j 0 ≤ _
      omega
theorem need78 (t : List Int) (h : vTone t = 0) : implf78 KK t = some (needF t) := by
  obtain ⟨hn, hb⟩ := bits_of h
  unfold implf78
  have key := upto (fun k (p : Nat) => impll78_0 KK k ((t.take p).foldl (· + ·) 0) t (t.length : Int) (p : Int)) (fun j => j) t.length (needF t, (t.length : Int), ())
    (fun k j hj => by
      have hr := need_rng hb j (by omega)
      have hbj : 0 ≤ t.getD j 0 ∧ t.getD j 0 ≤ 1 := by rcases hb j hj with e | e <;> rw [e] <;> decide
      show implb78_0 KK (impll78_0 KK k) _ t _ _ = _
      unfold implb78_0
      rw [cdec, if_pos (by omega), if_pos (by omega), Int.toNat_natCast, wrapI (by omega) (by omega), wrapS (by omega)]
      show _ = impll78_0 KK k _ t _ _
      rw [take_getD 0 hj, List.foldl_append]
      rfl)
    (fun k => by
      show implb78_0 KK (impll78_0 KK k) _ t _ _ = _
      unfold implb78_0
      rw [cdec, if_neg (by omega), List.take_length]
      rfl)
  have key := key KK 0 (by show t.length - 0 < 1000000; omega) (Nat.zero_le _)
  have key : impll78_0 KK KK 0 t (t.length : Int) 0 = _ := key
  rw [key]; rfl
theorem sound36 (t : List Int) (ht : t.length ≤ 1000) : implf36 KK t = some (if vTone t = 0 then (needF t, 0) else (0, vTone t)) := by
  unfold implf36
  rw [tone77 t ht]
  simp only [obS, ibne, cnot, cdec]
  by_cases h : vTone t = 0
  · rw [if_pos h, if_pos h, need78 t h]; rfl
  · rw [if_neg h, if_neg h]
theorem sound81 (t : List Int) (ht : t.length ≤ 1000) : implf81 KK t = some (if vTone t = 0 then (needF t, 0) else (0, vTone t)) := by
  unfold implf81
  rw [tone112 t ht]
  simp only [obS, ibne, cnot, cdec]
  by_cases h : vTone t = 0
  · rw [if_pos h, if_pos h]
    obtain ⟨hn, hb⟩ := bits_of h
    have key := upto (fun k (p : Nat) => impll81_0 KK k t ((t.take p).foldl (· + ·) 0) (p : Int)) (fun j => j) t.length (needF t, (t.length : Int), ())
      (fun k j hj => by
        have hr := need_rng hb j (by omega)
        have hbj : 0 ≤ t.getD j 0 ∧ t.getD j 0 ≤ 1 := by rcases hb j hj with e | e <;> rw [e] <;> decide
        show implb81_0 KK (impll81_0 KK k) t _ _ = _
        unfold implb81_0
        rw [cdec, if_pos (by omega), if_pos (by omega), Int.toNat_natCast, wrapI (by omega) (by omega), wrapS (by omega)]
        show _ = impll81_0 KK k t _ _
        rw [take_getD 0 hj, List.foldl_append]
        rfl)
      (fun k => by
        show implb81_0 KK (impll81_0 KK k) t _ _ = _
        unfold implb81_0
        rw [cdec, if_neg (by omega), List.take_length]
        rfl)
    have key := key KK 0 (by show t.length - 0 < 1000000; omega) (Nat.zero_le _)
    have key : impll81_0 KK KK t 0 0 = _ := key
    rw [key]; rfl
  · rw [if_neg h, if_neg h]

/-- The error of a kit. -/
noncomputable def kitErr (t w : List Int) (b : List (List Int) × List Int) : Int := if vTone t = 0 then (if vWeights w = 0 then vBox b else vWeights w) else vTone t
abbrev Stn : Type := (Int × Int) × List Int × List Int × (List (List Int) × List Int) × (Int × Bool × Int × Int × Int × Int × Int × Int × Int × Int × Int × Int × List ByteArray)
abbrev Ref : Type := List Int × (List (List Int) × List Int) × Int × Int × Int × Int × Int × Int × Int × Int × Int × Int × Bool × List ByteArray
def newS (t w : List Int) (b : List (List Int) × List Int) : Stn := ((0, 0), t, w, b, 0, false, 0, 0, 0, 0, 0, 0, 0, 0, 0, 0, [])
def newR (t w : List Int) (b : List (List Int) × List Int) : Ref := (w, b, needF t, 0, 0, 0, 0, 0, 0, 0, 0, 0, false, [])
theorem clone88 (l : List Int) (h : l.length ≤ 1000) : implf88 KK l = some l := by
  unfold implf88
  rw [if_pos (by simp; omega)]; simp
theorem clone89 (l : List (List Int)) (h : l.length ≤ 1000) : implf89 KK l = some l := by
  unfold implf89
  rw [if_pos (by simp; omega)]; simp
theorem new50a (t w : List Int) (b : List (List Int) × List Int) (ht : t.length ≤ 100) (hw : w.length ≤ 50) (h1 : b.1.length ≤ 50) (h2 : b.2.length ≤ 50) : implf50a KK t w b = if kitErr t w b = 0 then none else some ((), kitErr t w b) := by
  unfold implf50a kitErr
  rw [tone77 t (by omega), weights86 w (by omega), box87 b, clone88 t (by omega), clone88 w (by omega), clone88 b.2 (by omega), clone89 b.1 (by omega)]
  simp only [obS, ibne, cnot, cdec]
  by_cases e1 : vTone t = 0
  · by_cases e2 : vWeights w = 0
    · by_cases e3 : vBox b = 0
      · simp only [e1, e2, e3, if_true]
      · simp only [e1, e2, e3, if_true, if_false]
    · simp only [e1, e2, if_true, if_false]
  · simp only [e1, if_false]
theorem new50b (t w : List Int) (b : List (List Int) × List Int) (ht : t.length ≤ 100) (hw : w.length ≤ 50) (h1 : b.1.length ≤ 50) (h2 : b.2.length ≤ 50) : implf50b KK t w b = if kitErr t w b = 0 then some (newS t w b, 0) else none := by
  unfold implf50b kitErr
  rw [tone77 t (by omega), weights86 w (by omega), box87 b, clone88 t (by omega), clone88 w (by omega), clone88 b.2 (by omega), clone89 b.1 (by omega)]
  simp only [obS, ibne, cnot, cdec]
  by_cases e1 : vTone t = 0
  · by_cases e2 : vWeights w = 0
    · by_cases e3 : vBox b = 0
      · simp only [e1, e2, e3, if_true]; rfl
      · simp only [e1, e2, e3, if_true, if_false]
    · simp only [e1, e2, if_true, if_false]
  · simp only [e1, if_false]
theorem new43a (t w : List Int) (b : List (List Int) × List Int) (ht : t.length ≤ 100) (hw : w.length ≤ 50) (h1 : b.1.length ≤ 50) (h2 : b.2.length ≤ 50) : implf43a KK t w b = if kitErr t w b = 0 then none else some ((), kitErr t w b) := by
  unfold implf43a kitErr
  rw [sound81 t (by omega), weights82 w (by omega), box83 b]
  simp only [obS, ibne, cnot, cdec]
  by_cases e1 : vTone t = 0
  · by_cases e2 : vWeights w = 0
    · by_cases e3 : vBox b = 0
      · simp only [e1, e2, e3, if_true]
        rw [if_pos (by simp; omega), if_pos (by simp; omega), if_pos (by simp; omega)]
        rfl
      · simp only [e1, e2, e3, if_true, if_false]
    · simp only [e1, e2, if_true, if_false]
  · simp only [e1, if_false]
theorem new43b (t w : List Int) (b : List (List Int) × List Int) (ht : t.length ≤ 100) (hw : w.length ≤ 50) (h1 : b.1.length ≤ 50) (h2 : b.2.length ≤ 50) : implf43b KK t w b = if kitErr t w b = 0 then some (newR t w b, 0) else none := by
  unfold implf43b kitErr
  rw [sound81 t (by omega), weights82 w (by omega), box83 b]
  simp only [obS, ibne, cnot, cdec]
  by_cases e1 : vTone t = 0
  · by_cases e2 : vWeights w = 0
    · by_cases e3 : vBox b = 0
      · simp only [e1, e2, e3, if_true]
        rw [if_pos (by simp; omega), if_pos (by simp; omega), if_pos (by simp; omega)]
        rfl
      · simp only [e1, e2, e3, if_true, if_false]
    · simp only [e1, e2, if_true, if_false]
  · simp only [e1, if_false]
/-- All that orders change. -/
structure Sv where
  hour : Int
  fog : Bool
  state : Int
  air : Int
  stock : Int
  foggy : Int
  sounded : Int
  missed : Int
  amount : Int
  used : Int
  pumped : Int
  stocked : Int
  orders : List ByteArray
abbrev Box : Type := List (List Int) × List Int
abbrev StT : Type := Int × Bool × Int × Int × Int × Int × Int × Int × Int × Int × Int × Int × List ByteArray
def stOf (x : Sv) : StT := (x.hour, x.fog, x.state, x.air, x.stock, x.foggy, x.sounded, x.missed, x.amount, x.used, x.pumped, x.stocked, x.orders)
def stnOf (m : Int × Int) (t w : List Int) (b : Box) (x : Sv) : Stn := (m, t, w, b, stOf x)
def refOf (w : List Int) (b : Box) (need : Int) (x : Sv) : Ref := (w, b, need, x.hour, x.state, x.air, x.stock, x.foggy, x.sounded, x.missed, x.amount, x.used, x.fog, x.orders)
def nextF (b : Box) (x : Sv) : Int := (b.1.getD x.state.toNat (List.replicate 2 0)).getD (if x.fog then 1 else 0) 0
def passF (b : Box) (need : Int) (x : Sv) : Sv :=
  if b.2.getD (nextF b x).toNat 0 = 0 then { x with hour := x.hour + 1, foggy := if x.fog then x.foggy + 1 else x.foggy, state := nextF b x }
  else if x.air < need then { x with hour := x.hour + 1, foggy := if x.fog then x.foggy + 1 else x.foggy, state := nextF b x, missed := x.missed + 1 }
  else { x with hour := x.hour + 1, foggy := if x.fog then x.foggy + 1 else x.foggy, state := nextF b x, air := x.air - need, sounded := x.sounded + 1 }
/-- The numbers of a station are in their bounds. -/
structure Fine (b : Box) (N : Nat) (x : Sv) : Prop where
  st0 : 0 ≤ x.state
  st1 : x.state < b.1.length
  h0 : 0 ≤ x.hour
  h1 : x.hour ≤ N
  f0 : 0 ≤ x.foggy
  f1 : x.foggy ≤ x.hour
  s0 : 0 ≤ x.sounded
  m0 : 0 ≤ x.missed
  sm : x.sounded + x.missed ≤ x.hour
  a0 : 0 ≤ x.air
  a1 : x.air ≤ 500
theorem box_of {b : Box} (h : vBox b = 0) : (1 ≤ b.1.length ∧ b.1.length ≤ 6) ∧ b.2.length = b.1.length ∧ ∀ i, i < b.1.length → boxAt b b.1.length i := by
  unfold vBox at h
  split at h
  · rename_i h1
    split at h
    · rename_i h2; exact ⟨h1.1, h1.2, fun i hi => h2 i (Nat.zero_le _) hi⟩
    · cases h
  · cases h
theorem next_rng {b : Box} (hb : vBox b = 0) {N : Nat} {x : Sv} (hx : Fine b N x) : 0 ≤ nextF b x ∧ nextF b x < b.1.length := by
  obtain ⟨-, -, h⟩ := box_of hb
  have h0 := hx.st0; have h1 := hx.st1
  obtain ⟨p1, p2, -⟩ := h x.state.toNat (by omega)
  unfold nextF
  cases x.fog
  · exact ⟨p1.1, by have := p1.2; simp only [Bool.false_eq_true, if_false]; omega⟩
  · exact ⟨p2.1, by have := p2.2; simp only [if_true]; omega⟩
theorem need90 (m : Int × Int) (t w : List Int) (b : Box) (x : Sv) (h : vTone t = 0) : implf90 KK (stnOf m t w b x) = some (needF t) := by
  obtain ⟨hn, -⟩ := bits_of h
  unfold implf90 stnOf
  show ob (implf36 KK t) _ = _
  rw [sound36 t (by omega), if_pos h]; rfl
theorem pass137 (m : Int × Int) (t w : List Int) (b : Box) (ht : vTone t = 0) (hb : vBox b = 0) {N : Nat} (hN : N ≤ 1000000000) {x : Sv} (hx : Fine b N x) (x0 : Sv) : implf137 KK (stnOf m t w b x0) (stOf x) = some (stOf (passF b (needF t) x)) := by
  obtain ⟨hb1, hb2, -⟩ := box_of hb
  obtain ⟨hn, hbits⟩ := bits_of ht
  have hnr := need_rng hbits t.length (Nat.le_refl _)
  rw [List.take_length] at hnr
  have hnr : 0 ≤ needF t ∧ needF t ≤ (t.length : Int) := hnr
  obtain ⟨n0, n1⟩ := next_rng hb hx
  have h0 := hx.st0; have h1 := hx.st1; have h2 := hx.h0; have h3 := hx.h1; have h4 := hx.f0; have h5 := hx.f1; have h6 := hx.s0; have h7 := hx.m0; have h8 := hx.sm; have h9 := hx.a0; have h10 := hx.a1
  have w1 : IntKind.i64.wrap (x.hour + 1) = x.hour + 1 := wrapI (by omega) (by omega)
  have w2 : IntKind.i64.wrap (x.foggy + 1) = x.foggy + 1 := wrapI (by omega) (by omega)
  have w3 : IntKind.i64.wrap (x.missed + 1) = x.missed + 1 := wrapI (by omega) (by omega)
  have w4 : IntKind.i64.wrap (x.sounded + 1) = x.sounded + 1 := wrapI (by omega) (by omega)
  have w5 : IntKind.i64.wrap (x.air - needF t) = x.air - needF t := wrapI (by omega) (by omega)
  have hnd := need90 m t w b x0 ht
  unfold implf137
  rw [hnd]
  unfold passF
  obtain ⟨nx, hnx⟩ : ∃ nx, nx = nextF b x := ⟨_, rfl⟩
  rw [← hnx] at n0 n1 ⊢
  cases hf : x.fog with
  | false =>
    have e : (b.1.getD x.state.toNat (List.replicate 2 0)).getD 0 0 = nx := by rw [hnx]; unfold nextF; rw [hf]; rfl
    simp only [stnOf, stOf, hf, cond_false, e, w1, w3, w4, w5, obS, ibeq, cdec]
    rw [if_pos (by omega), if_pos (by omega)]
    by_cases c1 : b.2.getD nx.toNat 0 = 0
    · rw [if_pos c1, if_pos c1]; simp
    · rw [if_neg c1, if_neg c1]
      by_cases c2 : x.air < needF t
      · rw [if_pos c2, if_pos c2]; simp
      · rw [if_neg c2, if_neg c2]; simp
  | true =>
    have e : (b.1.getD x.state.toNat (List.replicate 2 0)).getD 1 0 = nx := by rw [hnx]; unfold nextF; rw [hf]; rfl
    simp only [stnOf, stOf, hf, cond_true, e, w1, w2, w3, w4, w5, obS, ibeq, cdec]
    rw [if_pos (by omega), if_pos (by omega)]
    by_cases c1 : b.2.getD nx.toNat 0 = 0
    · rw [if_pos c1, if_pos c1]; simp
    · rw [if_neg c1, if_neg c1]
      by_cases c2 : x.air < needF t
      · rw [if_pos c2, if_pos c2]; simp
      · rw [if_neg c2, if_neg c2]; simp
theorem fine_pass {b : Box} (hb : vBox b = 0) {t : List Int} (ht : vTone t = 0) {N : Nat} {x : Sv} (hx : Fine b N x) : Fine b (N + 1) (passF b (needF t) x) := by
  obtain ⟨n0, n1⟩ := next_rng hb hx
  obtain ⟨hn, hbits⟩ := bits_of ht
  have hnr := need_rng hbits t.length (Nat.le_refl _)
  rw [List.take_length] at hnr
  have hnr : 0 ≤ needF t ∧ needF t ≤ (t.length : Int) := hnr
  have h0 := hx.st0; have h1 := hx.st1; have h2 := hx.h0; have h3 := hx.h1; have h4 := hx.f0; have h5 := hx.f1; have h6 := hx.s0; have h7 := hx.m0; have h8 := hx.sm; have h9 := hx.a0; have h10 := hx.a1
  unfold passF
  have hfg : ∀ z : Bool, 0 ≤ (if z = true then x.foggy + 1 else x.foggy) ∧ (if z = true then x.foggy + 1 else x.foggy) ≤ x.hour + 1 := by
    intro z; cases z
    · simp only [Bool.false_eq_true, if_false]; omega
    · simp only [if_true]; omega
  have hf := hfg x.fog
  split
  · exact ⟨n0, n1, by show 0 ≤ x.hour + 1; omega, by show x.hour + 1 ≤ ((N + 1 : Nat) : Int); omega, hf.1, hf.2, h6, h7, by show x.sounded + x.missed ≤ x.hour + 1; omega, h9, h10⟩
  · split
    · exact ⟨n0, n1, by show 0 ≤ x.hour + 1; omega, by show x.hour + 1 ≤ ((N + 1 : Nat) : Int); omega, hf.1, hf.2, h6, by show 0 ≤ x.missed + 1; omega, by show x.sounded + (x.missed + 1) ≤ x.hour + 1; omega, h9, h10⟩
    · exact ⟨n0, n1, by show 0 ≤ x.hour + 1; omega, by show x.hour + 1 ≤ ((N + 1 : Nat) : Int); omega, hf.1, hf.2, by show 0 ≤ x.sounded + 1; omega, h7, by show (x.sounded + 1) + x.missed ≤ x.hour + 1; omega, by show 0 ≤ x.air - needF t; omega, by show x.air - needF t ≤ 500; omega⟩
/-- Hours. -/
def hoursF (b : Box) (need : Int) : Nat → Sv → Sv
  | 0, x => x
  | n + 1, x => hoursF b need n (passF b need x)
theorem fine_hours {b : Box} (hb : vBox b = 0) {t : List Int} (ht : vTone t = 0) : ∀ (n : Nat) {N : Nat} {x : Sv}, Fine b N x → Fine b (N + n) (hoursF b (needF t) n x)
  | 0, _, _, h => h
  | n + 1, N, x, h => by
    have := fine_hours hb ht n (fine_pass hb ht h)
    rw [show N + (n + 1) = N + 1 + n by omega]
    exact this
theorem step110 (w : List Int) (t : List Int) (b : Box) (ht : vTone t = 0) (hb : vBox b = 0) {N : Nat} (hN : N ≤ 1000000000) {x : Sv} (hx : Fine b N x) (rc : Ref → Int → Int → Option (Ref × Int × Unit)) (n j : Int) :
    implb110_0 KK rc (refOf w b (needF t) x) n j = if j < n then rc (refOf w b (needF t) (passF b (needF t) x)) n (IntKind.i64.wrap (j + 1)) else some (refOf w b (needF t) x, j, ()) := by
  obtain ⟨hb1, hb2, -⟩ := box_of hb
  obtain ⟨hn, hbits⟩ := bits_of ht
  have hnr := need_rng hbits t.length (Nat.le_refl _)
  rw [List.take_length] at hnr
  have hnr : 0 ≤ needF t ∧ needF t ≤ (t.length : Int) := hnr
  obtain ⟨n0, n1⟩ := next_rng hb hx
  have h0 := hx.st0; have h1 := hx.st1; have h2 := hx.h0; have h3 := hx.h1; have h4 := hx.f0; have h5 := hx.f1; have h6 := hx.s0; have h7 := hx.m0; have h8 := hx.sm; have h9 := hx.a0; have h10 := hx.a1
  have w1 : IntKind.i64.wrap (x.hour + 1) = x.hour + 1 := wrapI (by omega) (by omega)
  have w2 : IntKind.i64.wrap (x.foggy + 1) = x.foggy + 1 := wrapI (by omega) (by omega)
  have w3 : IntKind.i64.wrap (x.missed + 1) = x.missed + 1 := wrapI (by omega) (by omega)
  have w4 : IntKind.i64.wrap (x.sounded + 1) = x.sounded + 1 := wrapI (by omega) (by omega)
  have w5 : IntKind.i64.wrap (x.air - needF t) = x.air - needF t := wrapI (by omega) (by omega)
  unfold implb110_0
  rw [cdec]
  by_cases hj : j < n
  · rw [if_pos hj, if_pos hj]
    unfold passF
    obtain ⟨nx, hnx⟩ : ∃ nx, nx = nextF b x := ⟨_, rfl⟩
    rw [← hnx] at n0 n1 ⊢
    cases hf : x.fog with
    | false =>
      have e : (b.1.getD x.state.toNat (List.replicate 2 0)).getD 0 0 = nx := by rw [hnx]; unfold nextF; rw [hf]; rfl
      simp only [refOf, hf, cond_false, e, w1, w3, w4, w5, obS, ibeq, cdec]
      rw [if_pos (by omega), if_pos (by omega)]
      by_cases c1 : b.2.getD nx.toNat 0 = 0
      · rw [if_pos c1, if_pos c1]; simp
      · rw [if_neg c1, if_neg c1]
        by_cases c2 : x.air < needF t
        · rw [if_neg (by omega), if_pos c2]; simp
        · rw [if_pos (by omega), if_neg c2]; simp
    | true =>
      have e : (b.1.getD x.state.toNat (List.replicate 2 0)).getD 1 0 = nx := by rw [hnx]; unfold nextF; rw [hf]; rfl
      simp only [refOf, hf, cond_true, e, w1, w2, w3, w4, w5, obS, ibeq, cdec]
      rw [if_pos (by omega), if_pos (by omega)]
      by_cases c1 : b.2.getD nx.toNat 0 = 0
      · rw [if_pos c1, if_pos c1]; simp
      · rw [if_neg c1, if_neg c1]
        by_cases c2 : x.air < needF t
        · rw [if_neg (by omega), if_pos c2]; simp
        · rw [if_pos (by omega), if_neg c2]; simp
  · rw [if_neg hj, if_neg hj]
theorem loop110 (w t : List Int) (b : Box) (ht : vTone t = 0) (hb : vBox b = 0) : ∀ (d : Nat) (n j k N : Nat) (x : Sv), n - j = d → j ≤ n → n ≤ 99 → N + d ≤ 100000000 → d < k → Fine b N x →
    impll110_0 KK k (refOf w b (needF t) x) (n : Int) (j : Int) = some (refOf w b (needF t) (hoursF b (needF t) d x), (n : Int), ())
  | d, n, j, 0, N, x, _, _, _, _, h, _ => by omega
  | d, n, j, k + 1, N, x, hd, hj, hn, hN, hk, hx => by
    show implb110_0 KK (impll110_0 KK k) _ _ _ = _
    rw [step110 w t b ht hb (by omega) hx]
    by_cases h : j < n
    · rw [if_pos (by omega), wrapS (by omega), show d = (d - 1) + 1 by omega]
      exact loop110 w t b ht hb (d - 1) n (j + 1) k (N + 1) _ (by omega) (by omega) hn (by omega) (by omega) (fine_pass hb ht hx)
    · have : j = n := by omega
      have : d = 0 := by omega
      subst this
      rw [if_neg (by omega), this]; rfl
theorem loop103 (m : Int × Int) (t w : List Int) (b : Box) (ht : vTone t = 0) (hb : vBox b = 0) (x0 : Sv) : ∀ (d : Nat) (n j k N : Nat) (x : Sv), n - j = d → j ≤ n → n ≤ 99 → N + d ≤ 100000000 → d < k → Fine b N x →
    (∀ y : Sv, ∀ M, Fine b M y → M ≤ 1000000000 → implf137 KK (stnOf m t w b x0) (stOf y) = some (stOf (passF b (needF t) y))) →
    impll103_1 KK k (stnOf m t w b x0) (stOf x) (n : Int) (j : Int) = some (stOf (hoursF b (needF t) d x), (n : Int), ())
  | d, n, j, 0, N, x, _, _, _, _, h, _, _ => by omega
  | d, n, j, k + 1, N, x, hd, hj, hn, hN, hk, hx, hp => by
    show implb103_1 KK (impll103_1 KK k) _ _ _ _ = _
    unfold implb103_1
    rw [cdec]
    by_cases h : j < n
    · rw [if_pos (by omega), hp x N hx (by omega)]
      show impll103_1 KK k _ _ _ (IntKind.i64.wrap ((j : Int) + 1)) = _
      rw [wrapS (by omega), show d = (d - 1) + 1 by omega]
      exact loop103 m t w b ht hb x0 (d - 1) n (j + 1) k (N + 1) _ (by omega) (by omega) hn (by omega) (by omega) (fine_pass hb ht hx) hp
    · have e1 : j = n := by omega
      have e2 : d = 0 := by omega
      subst e2
      rw [if_neg (by omega), e1]; rfl
end Go.Proofs.YtbpjodikknbcoaaGreatDoor
